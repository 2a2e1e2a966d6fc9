/-
  Parts of the proof, in the order in which they build: EwF.
-/
import Derived.BigFrame
import Derived.Deep.CutRange
import Derived.Deep.MidRow
import Derived.Test.YtkjcnkkmhkcddaaA38
import Derived.Test.YtkjcnkkmhkcddaaA33
set_option linter.unusedVariables false
set_option linter.unusedSimpArgs false
namespace Go.Proofs.Ytkjcnkkmhkcddaa
open Go.RowKit Go.Shelf
open Lim

attribute [local go_sem] Oper.semAt_some

set_option maxRecDepth 1000000 in
theorem zeroFlowL : Try.zeroCells109.toList = (Value.int .i64 0 :: .slice none 0 0 :: .slice none 0 0 :: .slice none 0 0 :: .map none :: (List.replicate 100 (Value.bool false) ++ List.replicate 100 (Value.int .i64 0))) := by kernel_rfl
theorem zeroFlowE : Try.zeroCells109 = (.int .i64 0 :: .slice none 0 0 :: .slice none 0 0 :: .slice none 0 0 :: .map none :: (List.replicate 100 (Value.bool false) ++ List.replicate 100 (Value.int .i64 0))).toArray := Array.ext' zeroFlowL
def flowCells (v0 v1 v2 v3 v4 : Value) : Array Value := (v0 :: v1 :: v2 :: v3 :: v4 :: (List.replicate 100 (Value.bool false) ++ List.replicate 100 (Value.int .i64 0))).toArray
set_option maxRecDepth 100000 in
theorem flowChain (v0 v1 v2 v3 v4 : Value) : ((((Try.zeroCells109.setIfInBounds 0 v0).setIfInBounds 1 v1).setIfInBounds 2 v2).setIfInBounds 3 v3).setIfInBounds 4 v4 = flowCells v0 v1 v2 v3 v4 := by
 rw [zeroFlowE]; simp only [List.setIfInBounds_toArray, List.set_cons_zero, List.set_cons_succ, flowCells]
theorem flow_met (v0 v1 v2 v3 v4 : Value) {k : Nat} (hk : k < 100) : (flowCells v0 v1 v2 v3 v4)[5 + k]? = some (.bool false) := by
 rw [show 5 + k = k + 1 + 1 + 1 + 1 + 1 by omega]
 simp only [flowCells, List.getElem?_toArray, List.getElem?_cons_succ]
 rw [List.getElem?_append_left (by simp; omega), List.getElem?_replicate_of_lt hk]
theorem flow_from (v0 v1 v2 v3 v4 : Value) {k : Nat} (hk : k < 100) : (flowCells v0 v1 v2 v3 v4)[105 + k]? = some (.int .i64 0) := by
 rw [show 105 + k = (100 + k) + 1 + 1 + 1 + 1 + 1 by omega]
 simp only [flowCells, List.getElem?_toArray, List.getElem?_cons_succ]
 rw [List.getElem?_append_right (by simp), List.length_replicate, show 100 + k - 100 = k by omega, List.getElem?_replicate_of_lt hk]
set_option maxRecDepth 100000 in
theorem FlE.made {w : World} {B bm n wd c : Nat} {oa : Option Addr} {oc : Nat} {ev sv : Value} {os : List Int} {R : Nat → Nat → Option Int} (hB : B ≤ w.heap.size) (hbm : B ≤ bm) (hm : MapS w bm c R) (ho : RS B w (.slice oa n oc) n (ints os)) :
  FlE (w.alloc (.cells (flowCells (.int .i64 wd) (.slice oa n oc) ev sv (.map (some bm))) 109)) B w.heap.size bm n wd c oa oc ev sv os (fun _ => false) (fun _ => 0) R := by
 have hb : Below w.heap.size w (w.alloc (.cells (flowCells (.int .i64 wd) (.slice oa n oc) ev sv (.map (some bm))) 109)) := (Below.refl _ w).alloc (Nat.le_refl _) _
 have hc : ∀ j, (w.alloc (.cells (flowCells (.int .i64 wd) (.slice oa n oc) ev sv (.map (some bm))) 109)).cell? ⟨w.heap.size, j, none⟩ = (flowCells (.int .i64 wd) (.slice oa n oc) ev sv (.map (some bm)))[j]? := fun j => World.cell?_alloc_new ..
 exact ⟨⟨hB, hbm, by have := hm.lt; omega⟩, ⟨by rw [hc]; rfl, by rw [hc]; rfl, by rw [hc]; rfl, by rw [hc]; rfl⟩, ⟨by rw [hc]; rfl, World.frozen?_alloc_new ..⟩, fun k hk => ⟨by rw [hc]; exact flow_met _ _ _ _ _ hk, World.frozen?_alloc_new ..⟩, fun k hk => ⟨by rw [hc]; exact flow_from _ _ _ _ _ hk, World.frozen?_alloc_new ..⟩, hm.sep (T := fun _ => False) (Sep.of_below hb) id, ho.below (hb.mono hB)⟩
theorem hsF_lt {n wd : Nat} {E S : Nat → Int} (hw : 0 < wd) {a b : Nat} (h : (hsF n wd E S a b).isSome = true) : a < n ∧ b < n := by
 unfold hsF at h
 by_cases h1 : eas n wd a b
 ·have := eas_lt h1; have := h1.2.2; omega
 ·rw [if_neg h1] at h
  by_cases h2 : sou n wd a b
  ·have := sou_lt hw h2; have := h2.2; omega
  ·rw [if_neg h2] at h
   by_cases h3 : eas n wd b a
   ·have := eas_lt h3; have := h3.2.2; omega
   ·rw [if_neg h3] at h
    by_cases h4 : sou n wd b a
    ·have := sou_lt hw h4; have := h4.2; omega
    ·rw [if_neg h4] at h; cases h
theorem FlE.put {W W' : World} {B bf bm n wd c c' : Nat} {oa : Option Addr} {oc : Nat} {ev sv : Value} {os : List Int} {M : Nat → Bool} {Fr : Nat → Int} {R R' : Nat → Nat → Option Int} (h : FlE W B bf bm n wd c oa oc ev sv os M Fr R) (hg : W.grownBy W' (some bm)) (hm : MapS W' bm c' R') : FlE W' B bf bm n wd c' oa oc ev sv os M Fr R' := by
 have hs := Sep.of_grown hg
 have hB : B ≤ W.heap.size := by have := h.bf_lt; have := h.lt.1; omega
 have hne : ¬ some bm = some bf := fun e => h.lt.2.2 (by cases e; rfl)
 exact ⟨h.lt, h.ld.sep hs hne, ⟨hs.cell h.c4.1 hne, hs.frozen h.c4.1 hne h.c4.2⟩, fun k hk => ⟨hs.cell (h.met k hk).1 hne, hs.frozen (h.met k hk).1 hne (h.met k hk).2⟩, fun k hk => ⟨hs.cell (h.fr k hk).1 hne, hs.frozen (h.fr k hk).1 hne (h.fr k hk).2⟩, hm, h.row.below (hs.below hB (fun x hx => by cases hx; exact h.lt.2.1))⟩
theorem owns_sep {T : Nat → Prop} {W W' : World} {base e size : Nat} {v : Value} {n : Nat} {xs : List Value} (h : W.ownsRow base e size v n xs) (hs : Sep T W W') (hT : ∀ k, T k → k < base) : W'.ownsRow base e size v n xs := by
 refine ⟨h.1, ?_⟩
 rcases h.2 with hn | ⟨g, cap, cur, hv, hb, hg, r⟩
 ·exact .inl hn
 ·exact .inr ⟨g, cap, cur, hv, hb, hs.heap hg (fun ht => by have := hT g ht; omega), r⟩
theorem rmP_range {R : Nat → Nat → Option Int} {c : Int} {L : List Nat} {i x y : Nat} (hL : L.Nodup) (hc : 1 ≤ c ∧ c ≤ 1000) (hr : 0 ≤ (R x y).getD 0 ∧ (R x y).getD 0 ≤ 2000) (hs : (R x y).isSome = true) : -1000 ≤ (rmP R c L i x y).getD 0 ∧ (rmP R c L i x y).getD 0 ≤ 3000 := by
 rw [rmP_getD _ _ _ _ _ _ hs]
 have hn : (L.take (i + 1)).Nodup := hL.sublist (List.take_sublist _ _)
 have h1 := (dirc_once hn x y).1
 have h2 := (dirc_once hn y x).1
 have h3 := dirc_nonneg (L.take (i + 1)) x y
 have h4 := dirc_nonneg (L.take (i + 1)) y x
 have h5 := along_dirc (L.take (i + 1)) x y
 generalize along (L.take (i + 1)) x y = z at h5 ⊢
 have h6 : z = -1 ∨ z = 0 ∨ z = 1 := by omega
 rcases h6 with rfl | rfl | rfl <;> omega
/-- no flow is greater -/
def valMax (n : Nat) (own : Nat → Int) (h : Nat → Nat → Option Int) : Int := sm n fun a => if own a = 0 then sm n (fun b => (h a b).getD 0) else 0
theorem value_le {n : Nat} {own : Nat → Int} {h : Nat → Nat → Option Int} {g : Nat → Nat → Int} (F : Flow n own (fun a b => (h a b).getD 0) g) : value n own g ≤ valMax n own h := by
 refine sm_le n fun a ha => ?_
 by_cases e : own a = 0
 ·rw [if_pos e, if_pos e]; exact sm_le n fun b hb => F.cap a b ha hb
 ·rw [if_neg e, if_neg e]; exact Int.le_refl _
/-- the frame of full while its loop runs -/
def FrF (bf : Nat) (y : Int) (a : Act) : Prop := a = { tmps := #[Lim.sl a 0, Lim.sl a 1, Lim.sl a 2, .pointer (some ⟨bf, 0, none⟩), .int .i64 y, Lim.sl a 5, Lim.sl a 6, Lim.sl a 7, Lim.sl a 8, Lim.sl a 9, Lim.sl a 10, Lim.sl a 11, Lim.sl a 12, Lim.sl a 13, Lim.sl a 14, Lim.sl a 15, Lim.sl a 16, Lim.sl a 17, Lim.sl a 18, Lim.sl a 19, Lim.sl a 20, Lim.sl a 21, Lim.sl a 22, Lim.sl a 23, Lim.sl a 24, Lim.sl a 25, Lim.sl a 26, Lim.sl a 27, Lim.sl a 28, Lim.sl a 29, Lim.sl a 30, Lim.sl a 31, Lim.sl a 32, Lim.sl a 33, Lim.sl a 34, Lim.sl a 35, Lim.sl a 36, Lim.sl a 37, Lim.sl a 38, Lim.sl a 39, Lim.sl a 40, Lim.sl a 41, Lim.sl a 42, Lim.sl a 43, Lim.sl a 44, Lim.sl a 45, Lim.sl a 46, Lim.sl a 47, Lim.sl a 48, Lim.sl a 49, Lim.sl a 50, Lim.sl a 51, Lim.sl a 52, Lim.sl a 53, Lim.sl a 54, Lim.sl a 55, Lim.sl a 56, Lim.sl a 57, Lim.sl a 58, Lim.sl a 59, Lim.sl a 60, Lim.sl a 61, Lim.sl a 62, Lim.sl a 63, Lim.sl a 64, Lim.sl a 65, Lim.sl a 66, Lim.sl a 67, Lim.sl a 68, Lim.sl a 69, Lim.sl a 70], defers := a.defers }
/-- what is known of the last search -/
def Found (m : Mp) (R : Nat → Nat → Option Int) (M : Nat → Bool) (Fr : Nat → Int) (rk : Nat → Nat) (t : Nat) (y : Int) : Prop :=
 (y = -1 ∧ DInv m.n (edR m R) (fun k => m.own k = 0) (fun k => m.own k = 1) M Fr rk t []) ∨ ∃ (last : Nat) (q : List Nat), y = last ∧ M last = true ∧ m.own last = 1 ∧ t ≤ 101 ∧ DBase m.n (edR m R) (fun k => m.own k = 0) M Fr rk t q
theorem ReaAns.found {B bf bm c : Nat} {m : Mp} {oa : Option Addr} {oc : Nat} {ev sv : Value} {R : Nat → Nat → Option Int} {w w' : World} {e : Ending} (h : ReaAns B bf bm c m oa oc ev sv R w e w') :
  w.grownBy w' (some bf) ∧ ∃ M Fr rk t y, e = .returned (.int .i64 y) ∧ FlE w' B bf bm m.n m.wd c oa oc ev sv m.os M Fr R ∧ Found m R M Fr rk t y := by
 obtain ⟨h1, M, Fr, rk, t, q, h2, ⟨h3, h4⟩ | ⟨last, h3, h4, h5, h6, h7⟩⟩ := h
 ·exact ⟨h1, M, Fr, rk, t, -1, h3, h2, .inl ⟨rfl, h4⟩⟩
 ·exact ⟨h1, M, Fr, rk, t, last, h3, h2, .inr ⟨last, q, rfl, h4, h5, h6, h7⟩⟩
set_option maxRecDepth 100000 in
set_option maxHeartbeats 4000000 in
theorem full_any {B : Nat} {m : Mp} {oa ea sa : Option Addr} {oc ec sc : Nat} {es ss : List Int} {E S : Nat → Int} {w : World} (hm : m.Ok) (hB : B ≤ w.heap.size) (ho : RS B w (.slice oa m.n oc) m.n (ints m.os)) (he : RS B w (.slice ea m.n ec) es.length (ints es)) (hs : RS B w (.slice sa m.n sc) ss.length (ints ss))
  (hel : es.length = m.n) (hsl : ss.length = m.n) (hEq : ∀ k, es.getD k 0 = E k) (hSq : ∀ k, ss.getD k 0 = S k) (hE : ∀ k, k < m.n → 0 ≤ E k ∧ E k ≤ 1000) (hS : ∀ k, k < m.n → 0 ≤ S k ∧ S k ≤ 1000) (hown : ∀ k, k < m.n → m.own k = -1 ∨ m.own k = 0 ∨ m.own k = 1) :
  Calls Try.prog 58 #[.agg #[.int .i64 m.wd, .slice oa m.n oc, .slice ea m.n ec, .slice sa m.n sc]] w fun e w' => Below w.heap.size w w' ∧ ∃ bf bm c M Fr R g rk t, e = .returned (.pointer (some ⟨bf, 0, none⟩)) ∧ w.heap.size ≤ bf ∧ w.heap.size ≤ bm ∧ FlE w' B bf bm m.n m.wd c oa oc (.slice ea m.n ec) (.slice sa m.n sc) m.os M Fr R ∧
   Full m.n m.own (hsF m.n m.wd E S) R g ∧ DInv m.n (edR m R) (fun k => m.own k = 0) (fun k => m.own k = 1) M Fr rk t [] := by
 have HM := Lib.hid hm
 have HO := Lib.hid (And.intro ho hown)
 have HE := Lib.hid (And.intro hEq (And.intro hSq (And.intro hE hS)))
 have HL := Lib.hid (And.intro hel (And.intro hsl (And.intro hm.n1 (And.intro hm.w0 hm.wn))))
 have hn : m.n ≤ 100 := hm.n1
 have hb0 : Below w.heap.size w (w.alloc (.cells #[.int .i64 m.wd, .slice oa m.n oc, .slice ea m.n ec, .slice sa m.n sc] 44)) := (Below.refl _ w).alloc (Nat.le_refl _) _
 have HB1 : Hid (B ≤ (w.alloc (.cells #[.int .i64 m.wd, .slice oa m.n oc, .slice ea m.n ec, .slice sa m.n sc] 44)).drew.heap.size ∧ RS B (w.alloc (.cells #[.int .i64 m.wd, .slice oa m.n oc, .slice ea m.n ec, .slice sa m.n sc] 44)).drew (.slice ea m.n ec) es.length (ints es) ∧ RS B (w.alloc (.cells #[.int .i64 m.wd, .slice oa m.n oc, .slice ea m.n ec, .slice sa m.n sc] 44)).drew (.slice sa m.n sc) ss.length (ints ss)) := Lib.hid ⟨Nat.le_trans hB hb0.size, (he.below (hb0.mono hB)).below (Below.refl _ _).drew, (hs.below (hb0.mono hB)).below (Below.refl _ _).drew⟩
 have HB0 := Lib.hid (And.intro hB hb0)
 have hC : (fun W => LdAt W w.heap.size m.wd (.slice oa m.n oc) (.slice ea m.n ec) (.slice sa m.n sc)) (w.alloc (.cells #[.int .i64 m.wd, .slice oa m.n oc, .slice ea m.n ec, .slice sa m.n sc] 44)).drew := (LdAt.box w m.wd (.slice oa m.n oc) (.slice ea m.n ec) (.slice sa m.n sc)).on (Below.refl _ _).drew
 clear hm hB ho he hs hel hsl hEq hSq hE hS hown hb0
 go_enter Try.func58, Try.ntmps58
 go_upto_region 1 with (fail)
 generalize w.alloc (.cells #[.int .i64 m.wd, .slice oa m.n oc, .slice ea m.n ec, .slice sa m.n sc] 44) = w1 at HB0 HB1 hC ⊢
 refine Lim.regC' (fun W => LdAt W w.heap.size m.wd (.slice oa m.n oc) (.slice ea m.n ec) (.slice sa m.n sc)) [] #[false, false, false, false, false, false] (by kernel_rfl) rfl ?_
 refine Lim.stepR 0 (fun _ => trivial) rfl (by kernel_rfl) (fun _ _ _ _ h => h) hC rfl ?_; apply Exists.intro; refine ⟨?_, ?_⟩
 ·rintro w ⟨r1, r2, r3, r4⟩; go_simp; try with_reducible rfl
 simp only [Act.put, List.setIfInBounds_toArray, List.set_cons_succ, List.set_cons_zero]
 refine Lim.stepR 1 (fun _ => trivial) rfl (by kernel_rfl) (fun _ _ _ _ h => h) hC rfl ?_; apply Exists.intro; refine ⟨?_, ?_⟩
 ·rintro w ⟨r1, r2, r3, r4⟩; go_simp; try with_reducible rfl
 simp only [Act.put, List.setIfInBounds_toArray, List.set_cons_succ, List.set_cons_zero]
 refine Lim.stepE 2 (fun _ => trivial) rfl (by kernel_rfl) rfl (fun K hK => ?_)   -- E call
 go_simp
 refine ⟨rfl, (callsIn_wide.2 (houses_aux (B := B) (w := w1.drew) (n := m.n) (E := E) (S := S) HB1.out.1 rfl HB1.out.2.1 HB1.out.2.2 HL.out.1 HL.out.2.1 HL.out.2.2.1 HL.out.2.2.2.1 HL.out.2.2.2.2 HE.out.1 HE.out.2.1 HE.out.2.2.1 HE.out.2.2.2)).mono ?_⟩
 rintro e w3 ⟨bm, rfl, hbm, hmp, hb3⟩
 have hC3 : (fun W => LdAt W w.heap.size m.wd (.slice oa m.n oc) (.slice ea m.n ec) (.slice sa m.n sc)) w3 := hC.on hb3
 refine hK _ _ hC3 ?_
 simp only [Act.put, List.setIfInBounds_toArray, List.set_cons_succ, List.set_cons_zero]
 refine Lim.stepR 3 (fun _ => trivial) rfl (by kernel_rfl) (fun _ _ _ _ h => h) hC3 rfl ?_; apply Exists.intro; refine ⟨?_, ?_⟩
 ·rintro w ⟨r1, r2, r3, r4⟩; go_simp; try with_reducible rfl
 simp only [Act.put, List.setIfInBounds_toArray, List.set_cons_succ, List.set_cons_zero]
 refine Lim.stepE 4 (fun _ => trivial) rfl (by kernel_rfl) rfl (fun K hK => ?_)   -- E box
 go_simp
 simp only [flowChain]
 have hC4 : (fun W => LdAt W w.heap.size m.wd (.slice oa m.n oc) (.slice ea m.n ec) (.slice sa m.n sc)) (w3.alloc (.cells (flowCells (.int .i64 m.wd) (.slice oa m.n oc) (.slice ea m.n ec) (.slice sa m.n sc) (.map (some bm))) 109)) := LdAt.on hC3 ((Below.refl _ w3).alloc (Nat.le_refl _) _)
 refine hK _ _ hC4 ?_
 simp only [Act.put, List.setIfInBounds_toArray, List.set_cons_succ, List.set_cons_zero]
 refine Lim.stepR 5 (fun _ => trivial) rfl (by kernel_rfl) (fun _ _ _ _ h => h) hC4 rfl ?_; apply Exists.intro; refine ⟨?_, ?_⟩
 ·rintro w ⟨r1, r2, r3, r4⟩; go_simp; try with_reducible rfl
 simp only [Act.put, List.setIfInBounds_toArray, List.set_cons_succ, List.set_cons_zero]
 refine Lim.stepD (by kernel_rfl) ?_
 have hw3 : w1.heap.size ≤ w3.heap.size := hb3.size
 have hb13 : Below w.heap.size w w3 := HB0.out.2.trans (((Below.refl _ w1).drew.trans hb3).mono HB0.out.2.size)
 have hwb : w.heap.size ≤ bm := Nat.le_trans HB0.out.2.size hbm
 have HF0 := Lib.hid (FlE.made (wd := m.wd) (ev := .slice ea m.n ec) (sv := .slice sa m.n sc) (os := m.os) (B := B) (Nat.le_trans HB0.out.1 hb13.size) (Nat.le_trans HB0.out.1 hwb) hmp (HO.out.1.below (hb13.mono HB0.out.1)))
 have HB4 : Hid (Below w.heap.size w (w3.alloc (.cells (flowCells (.int .i64 m.wd) (.slice oa m.n oc) (.slice ea m.n ec) (.slice sa m.n sc) (.map (some bm))) 109)) ∧ w.heap.size ≤ w3.heap.size ∧ w.heap.size ≤ bm) := Lib.hid ⟨hb13.trans (((Below.refl _ w3).alloc (Nat.le_refl _) _).mono hb13.size), hb13.size, hwb⟩
 clear hC hC3 hC4 hb3 hmp hbm hw3 hb13 hwb HB1
 generalize w3.alloc (.cells (flowCells (.int .i64 m.wd) (.slice oa m.n oc) (.slice ea m.n ec) (.slice sa m.n sc) (.map (some bm))) 109) = w4 at HF0 HB4 ⊢
 obtain ⟨bf, hbf⟩ : ∃ x, x = w3.heap.size := ⟨_, rfl⟩
 rw [← hbf] at HF0 HB4 ⊢
 clear hbf w3
 go_wp2_with fail
 refine (reaches_any HM.out HF0.out).mono ?_
 intro e w5 hans
 obtain ⟨hg5, M, Fr, rk, t, y, rfl, hfl, hfd⟩ := hans.found
 have H5 : Hid (Below w.heap.size w w5 ∧ FlE w5 B bf bm m.n m.wd 400 oa oc (.slice ea m.n ec) (.slice sa m.n sc) m.os M Fr (hsF m.n m.wd E S) ∧ Full m.n m.own (hsF m.n m.wd E S) (hsF m.n m.wd E S) (fun _ _ => 0) ∧ Found m (hsF m.n m.wd E S) M Fr rk t y) :=
  Lib.hid ⟨HB4.out.1.trans ((Sep.of_grown hg5).below HB4.out.1.size (fun x hx => by cases hx; exact HB4.out.2.1)), hfl, Full.start (fun a b => (hsF_range HE.out.2.2.1 HE.out.2.2.2 a b).1), hfd⟩
 clear hans hg5 hfl hfd HF0
 go_wp2_with fail
 refine wp_loop_ghost_k (fun mi a' W => ∃ (M : Nat → Bool) (Fr : Nat → Int) (R : Nat → Nat → Option Int) (g : Nat → Nat → Int) (rk : Nat → Nat) (t : Nat) (y : Int), FrF bf y a' ∧ a'.defers = [] ∧ Hid (Below w.heap.size w W ∧ FlE W B bf bm m.n m.wd 400 oa oc (.slice ea m.n ec) (.slice sa m.n sc) m.os M Fr R ∧ Full m.n m.own (hsF m.n m.wd E S) R g ∧ Found m R M Fr rk t y ∧ mi = (valMax m.n m.own (hsF m.n m.wd E S) - value m.n m.own g).toNat)) _
  ⟨_, _, _, _, _, _, _, rfl, rfl, Lib.hid ⟨H5.out.1, H5.out.2.1, H5.out.2.2.1, H5.out.2.2.2, rfl⟩⟩ ?_
 have HBM := Lib.hid HB4.out.2
 clear H5 HB4 w4 w5
 rintro mi a' W ⟨M, Fr, R, g, rk, t, y, hfr, hdf, hI⟩ J2 K2 hJ2 hK2
 unfold FrF at hfr
 rw [hdf] at hfr
 generalize Lim.sl a' = x at hfr
 subst hfr
 clear hdf
 by_cases hy : y = -1
 ·have g1 : (y != -1) = false := by simp [hy]
  have HY := Lib.hid hy
  clear hy
  go_wp2_with fail
  go_ret
  rcases hI.out.2.2.2.1 with ⟨-, hd⟩ | ⟨last, q, e, -⟩
  ·exact ⟨hI.out.1, bf, bm, 400, M, Fr, R, g, rk, t, rfl, HBM.out.1, HBM.out.2, hI.out.2.1, hI.out.2.2.1, hd⟩
  ·exact absurd HY.out (by omega)
 ·have g1 : (y != -1) = true := by simpa using hy
  obtain ⟨last, q, hyl, hMl, hol, ht, hDB⟩ : ∃ (last : Nat) (q : List Nat), y = last ∧ M last = true ∧ m.own last = 1 ∧ t ≤ 101 ∧ DBase m.n (edR m R) (fun k => m.own k = 0) M Fr rk t q := by
   rcases hI.out.2.2.2.1 with ⟨h1, -⟩ | h
   ·exact absurd h1 hy
   ·exact h
  subst hyl
  have hlt : ∀ {a b : Nat}, (R a b).isSome = true → a < m.n ∧ b < m.n := fun {a b} h => hsF_lt HM.out.w0 (by rw [← hI.out.2.2.1.so a b]; exact h)
  have hsm : ∀ {a b : Nat}, (R a b).getD 0 ≠ 0 → (R a b).isSome = true := fun {a b} h => by
   cases hr : R a b with
   | none => rw [hr] at h; exact absurd rfl h
   | some v => rfl
  have hrg : ∀ {a b : Nat}, a < m.n → b < m.n → 0 ≤ (R a b).getD 0 ∧ (R a b).getD 0 ≤ 2000 := fun {a b} ha hb => hI.out.2.2.1.range (hsF_symm HM.out.w0) (fun a b => (hsF_range HE.out.2.2.1 HE.out.2.2.2 a b).2) ha hb
  have hR : ∀ a b, edR m R a b → 1 ≤ (R a b).getD 0 := fun a b h => by
   have h1 := hlt (hsm h.2)
   have h2 := hrg h1.1 h1.2
   have := h.2
   omega
  have HR := Lib.hid (And.intro @hlt (And.intro @hsm @hrg))
  have HW := Lib.hid (way_any hn hI.out.2.1 hDB hMl ht hR)
  have HDB := Lib.hid (And.intro ht (And.intro hDB hol))
  clear hlt hsm hrg hR hDB hMl hol ht hy
  go_wp2_with fail
  refine HW.out.mono ?_
  rintro e w2 ⟨hb2, v, L, a0, k, rfl, hrow, hway, hSt⟩
  obtain ⟨ℓ, hℓ⟩ : ∃ ℓ, L.length = ℓ + 1 := by
   obtain ⟨s, hs⟩ := hway.bk.head
   exact ⟨s.length, by rw [hs]; rfl⟩
  rw [hℓ] at hrow
  have hrow2 := hrow
  rcases hrow.2 with ⟨-, h0⟩ | ⟨gl, cap, cur, rfl, hbg, -, hlc, -⟩
  ·omega
  have hlen : ℓ + 1 ≤ 101 := by have := hway.len; have := HDB.out.1; omega
  have hrp := run_pop gl 0 ℓ cap hlc (by omega) w2
  obtain ⟨pa, pk, hpv⟩ : ∃ a k, popV gl 0 ℓ cap = .slice a ℓ k := by
   unfold popV
   split
   ·exact ⟨_, _, by rw [show ℓ = 0 by omega]⟩
   ·exact ⟨_, _, rfl⟩
  rw [hpv] at hrp
  have HJ := Lib.hid (And.intro hJ2 hK2)
  clear hJ2 hK2
  have HWY := Lib.hid (And.intro hway (And.intro hSt (And.intro hℓ hlen)))
  have H2 : Hid (Below w.heap.size w w2 ∧ FlE w2 B bf bm m.n m.wd 400 oa oc (.slice ea m.n ec) (.slice sa m.n sc) m.os M Fr (rmP R k L 0) ∧ w2.ownsRow W.heap.size 3 1 (.slice (some ⟨gl, 0, none⟩) (ℓ + 1) cap) (ℓ + 1) (ints (L.map Int.ofNat)) ∧ bm < W.heap.size) := Lib.hid ⟨hI.out.1.trans (hb2.mono hI.out.1.size), by rw [rmP_zero]; exact hI.out.2.1.on hb2, hrow2, hI.out.2.1.rm.lt⟩
  clear HW hb2 hrow hrow2 hway hSt hℓ hlen hpv hlc hbg
  go_wp2_with fail
  go_loopw [28] (fun v wr => ∃ i : Nat, i ≤ ℓ ∧ v = .int .i64 i ∧ Hid (Below w.heap.size w wr ∧ FlE wr B bf bm m.n m.wd 400 oa oc (.slice ea m.n ec) (.slice sa m.n sc) m.os M Fr (rmP R k L i) ∧ wr.ownsRow W.heap.size 3 1 (.slice (some ⟨gl, 0, none⟩) (ℓ + 1) cap) (ℓ + 1) (ints (L.map Int.ofNat)) ∧ bm < W.heap.size)) (fun v _ => ℓ - (intOf v).toNat)
  case atStart => exact ⟨0, Nat.zero_le _, rfl, H2⟩
  case round =>
   clear H2
   obtain ⟨i, hi, rfl, hP⟩ := hrel
   by_cases hil : i < ℓ
   ·have hil64 : (i : Int) < ℓ := by omega
    have hlL : L.length = ℓ + 1 := HWY.out.2.2.1
    have hl101 := HWY.out.2.2.2
    obtain ⟨a, ha⟩ : ∃ a, L[i]? = some a := ⟨_, List.getElem?_eq_getElem (by omega)⟩
    obtain ⟨b, hb⟩ : ∃ b, L[i + 1]? = some b := ⟨_, List.getElem?_eq_getElem (by omega)⟩
    have hsp : L = L.take i ++ a :: b :: L.drop (i + 2) := by
     have e1 : L.drop (i + 1) = b :: L.drop (i + 2) := by
      obtain ⟨h1, h2⟩ := List.getElem?_eq_some_iff.1 hb
      rw [← h2]; exact List.drop_eq_getElem_cons h1
     have e2 : L.drop i = a :: L.drop (i + 1) := by
      obtain ⟨h1, h2⟩ := List.getElem?_eq_some_iff.1 ha
      rw [← h2]; exact List.drop_eq_getElem_cons h1
     rw [← e1, ← e2, List.take_append_drop]
    have hed := HWY.out.1.bk.adj _ _ _ _ hsp
    have hab : a ≠ b := fun e => by
     have h1 := HWY.out.1.bk.nodup
     rw [hsp] at h1
     have h2 := (List.nodup_append.1 h1).2.1
     rw [e] at h2
     simp at h2
    have s1 := HR.out.2.1 hed.2
    have l1 := HR.out.1 s1
    have s2 : (R b a).isSome = true := by rw [hI.out.2.2.1.so b a, hsF_symm HM.out.w0, ← hI.out.2.2.1.so a b]; exact s1
    have p0 := rmP_range (i := i) HWY.out.1.bk.nodup HWY.out.1.c0 (HR.out.2.2 l1.1 l1.2) s1
    have p1 := rmP_range (i := i) HWY.out.1.bk.nodup HWY.out.1.c0 (HR.out.2.2 l1.2 l1.1) s2
    obtain ⟨r0, hr0⟩ : ∃ r0, r0 = (rmP R k L i a b).getD 0 := ⟨_, rfl⟩
    obtain ⟨r1, hr1⟩ : ∃ r1, r1 = (rmP R k L i b a).getD 0 := ⟨_, rfl⟩
    rw [← hr0] at p0
    rw [← hr1] at p1
    have hk := HWY.out.1.c0
    have hF9 := hP.out.2.1.on (Below.refl _ wr).drew
    have hlk := hF9.rm.lookup (x := a) (y := b) (by omega) (by omega)
    obtain ⟨st, hme, hst⟩ := hF9.rm.entry (by unfold maxLen; omega) (x := a) (y := b) (by omega) (by omega) (by rw [rmP_some]; exact s1)
    obtain ⟨w3, hes, hm3, hg3⟩ := hst (r0 - k) (WalkArith.wf_i64 ⟨by omega, by omega⟩)
    rw [← hr0] at hlk hme
    have hF3 := hF9.put hg3 hm3
    have hF10 := hF3.on (Below.refl _ w3).drew
    have hlk2 := hF10.rm.lookup (x := b) (y := a) (by omega) (by omega)
    obtain ⟨st2, hme2, hst2⟩ := hF10.rm.entry (by unfold maxLen; omega) (x := b) (y := a) (by omega) (by omega) (by
     show (if b = a ∧ a = b then some (r0 - k) else rmP R k L i b a).isSome = true
     rw [if_neg (fun h => hab h.2), rmP_some]; exact s2)
    obtain ⟨w4, hes2, hm4, hg4⟩ := hst2 (r1 + k) (WalkArith.wf_i64 ⟨by omega, by omega⟩)
    have hv2 : (if b = a ∧ a = b then some (r0 - k) else rmP R k L i b a).getD 0 = r1 := by rw [if_neg (fun h => hab h.2), hr1]
    simp only [hv2] at hlk2 hme2
    have hF4 := hF10.put hg4 hm4
    have hrs := rmP_step (R := R) (c := k) ha hb hab s1 s2
    rw [← hr0, ← hr1] at hrs
    rw [hrs] at hF4
    have hown9 := hP.out.2.2.1
    have ha' : (ints (L.map Int.ofNat))[i]? = some (.int .i64 a) := by unfold ints; rw [List.getElem?_map, List.getElem?_map, ha]; rfl
    have hb' : (ints (L.map Int.ofNat))[i + 1]? = some (.int .i64 b) := by unfold ints; rw [List.getElem?_map, List.getElem?_map, hb]; rfl
    have ca := hown9.cells (g := gl) rfl i _ ha'
    have cb := hown9.cells (g := gl) rfl (i + 1) _ hb'
    rw [Addr.add_lit, Nat.zero_add] at ca cb
    have hbase := (hown9.lt gl (by simp [Value.ownBlock])).1
    have hno : ¬ some bm = some gl := fun e => by cases e; have := hP.out.2.2.2; omega
    have hs3 := Sep.of_grown hg3
    have hs4 := Sep.of_grown hg4
    have ca3 := hs3.cell (show wr.drew.cell? _ = _ from ca) hno
    have cb3 := hs3.cell (show wr.drew.cell? _ = _ from cb) hno
    have hC : (fun W => W.cell? ⟨bf, 4, none⟩ = some (.map (some bm)) ∧ W.cell? ⟨gl, i, none⟩ = some (.int .i64 a) ∧ W.cell? ⟨gl, i + 1, none⟩ = some (.int .i64 b) ∧ (Instr.lookup 106 (.map (some bm)) (.agg #[.int .i64 a, .int .i64 b]) false).run Try.prog W = .ok (.int .i64 r0) W ∧ (Instr.mapEntry 106 (.map (some bm)) (.agg #[.int .i64 a, .int .i64 b])).run Try.prog W = .ok (.tuple #[.int .i64 r0, .int .i64 st]) W) wr.drew := ⟨hF9.c4.1, ca, cb, hlk, hme⟩
    have hD : (fun W => W.cell? ⟨bf, 4, none⟩ = some (.map (some bm)) ∧ W.cell? ⟨gl, i, none⟩ = some (.int .i64 a) ∧ W.cell? ⟨gl, i + 1, none⟩ = some (.int .i64 b) ∧ (Instr.lookup 106 (.map (some bm)) (.agg #[.int .i64 b, .int .i64 a]) false).run Try.prog W = .ok (.int .i64 r1) W ∧ (Instr.mapEntry 106 (.map (some bm)) (.agg #[.int .i64 b, .int .i64 a])).run Try.prog W = .ok (.tuple #[.int .i64 r1, .int .i64 st2]) W) w3.drew := ⟨hF10.c4.1, ca3, cb3, hlk2, hme2⟩
    have hwr1 : IntKind.i64.wrap ((i : Int) + 1) = (i : Int) + 1 := IntWalk.i64_in _ (by omega)
    have hwr2 : IntKind.i64.wrap (r0 - k) = r0 - k := IntWalk.i64_in _ (by omega)
    have hwr3 : IntKind.i64.wrap (r1 + k) = r1 + k := IntWalk.i64_in _ (by omega)
    have hi1 : (i : Int) + 1 < ℓ + 1 := by omega
    have hi2 : (i : Int) < ℓ + 1 := by omega
    have hi3 : (0 : Int) ≤ (i : Int) + 1 := by omega
    have hfin : Hid (Below w.heap.size w w4 ∧ FlE w4 B bf bm m.n m.wd 400 oa oc (.slice ea m.n ec) (.slice sa m.n sc) m.os M Fr (rmP R k L (i + 1)) ∧ w4.ownsRow W.heap.size 3 1 (.slice (some ⟨gl, 0, none⟩) (ℓ + 1) cap) (ℓ + 1) (ints (L.map Int.ofNat)) ∧ bm < W.heap.size) := by
     have e1 : Below w.heap.size wr.drew w3 := hs3.below hP.out.1.size (fun x hx => by cases hx; exact HBM.out.2)
     have e2 : Below w.heap.size w3.drew w4 := hs4.below (Nat.le_trans hP.out.1.size hs3.size) (fun x hx => by cases hx; exact HBM.out.2)
     have b4 : Below w.heap.size w w4 := ((hP.out.1.drew.trans e1).drew).trans e2
     have o3 := owns_sep (W := wr.drew) hown9 hs3 (fun x hx => by cases hx; exact hP.out.2.2.2)
     have o4 := owns_sep (W := w3.drew) o3 hs4 (fun x hx => by cases hx; exact hP.out.2.2.2)
     exact Lib.hid ⟨b4, hF4, o4, hP.out.2.2.2⟩
    clear hF9 hF3 hF10 hF4 hst hst2 hm3 hm4 hg3 hg4 hrs hown9 hs3 hs4 ca cb ca3 cb3 hP hv2 ha hb ha' hb' hsp hed hab s1 s2 l1 hk hlL hl101 hbase hno p0 p1 hrp
    replace hr0 := Lib.hid hr0
    replace hr1 := Lib.hid hr1
    go_wp2_with fail
    refine Lim.regC' (fun W => W.cell? ⟨bf, 4, none⟩ = some (.map (some bm)) ∧ W.cell? ⟨gl, i, none⟩ = some (.int .i64 a) ∧ W.cell? ⟨gl, i + 1, none⟩ = some (.int .i64 b) ∧ (Instr.lookup 106 (.map (some bm)) (.agg #[.int .i64 a, .int .i64 b]) false).run Try.prog W = .ok (.int .i64 r0) W ∧ (Instr.mapEntry 106 (.map (some bm)) (.agg #[.int .i64 a, .int .i64 b])).run Try.prog W = .ok (.tuple #[.int .i64 r0, .int .i64 st]) W) [19] #[false, false, false, false, false, false, false, false, false, false, false, false, false, false, false, false, false, false, false, false] (by kernel_rfl) rfl ?_
    refine Lim.stepR 0 (fun _ => trivial) rfl (by kernel_rfl) (fun _ _ _ _ h => h) hC rfl ?_; apply Exists.intro; refine ⟨?_, ?_⟩
    ·rintro w ⟨r1, r2, r3, r4, r5⟩; go_simp; try with_reducible rfl
    simp only [Act.put, List.setIfInBounds_toArray, List.set_cons_succ, List.set_cons_zero]
    refine Lim.stepR 1 (fun _ => trivial) rfl (by kernel_rfl) (fun _ _ _ _ h => h) hC rfl ?_; apply Exists.intro; refine ⟨?_, ?_⟩
    ·rintro w ⟨r1, r2, r3, r4, r5⟩; go_simp; try with_reducible rfl
    simp only [Act.put, List.setIfInBounds_toArray, List.set_cons_succ, List.set_cons_zero]
    refine Lim.stepR 2 (fun _ => trivial) rfl (by kernel_rfl) (fun _ _ _ _ h => h) hC rfl ?_; apply Exists.intro; refine ⟨?_, ?_⟩
    ·rintro w ⟨r1, r2, r3, r4, r5⟩; go_simp; try with_reducible rfl
    simp only [Act.put, List.setIfInBounds_toArray, List.set_cons_succ, List.set_cons_zero]
    refine Lim.stepR 3 (fun _ => trivial) rfl (by kernel_rfl) (fun _ _ _ _ h => h) hC rfl ?_; apply Exists.intro; refine ⟨?_, ?_⟩
    ·rintro w ⟨r1, r2, r3, r4, r5⟩; go_simp; try with_reducible rfl
    simp only [Act.put, List.setIfInBounds_toArray, List.set_cons_succ, List.set_cons_zero]
    refine Lim.stepR 4 (fun _ => trivial) rfl (by kernel_rfl) (fun _ _ _ _ h => h) hC rfl ?_; apply Exists.intro; refine ⟨?_, ?_⟩
    ·rintro w ⟨r1, r2, r3, r4, r5⟩; go_simp; try with_reducible rfl
    simp only [Act.put, List.setIfInBounds_toArray, List.set_cons_succ, List.set_cons_zero]
    refine Lim.stepR 5 (fun _ => trivial) rfl (by kernel_rfl) (fun _ _ _ _ h => h) hC rfl ?_; apply Exists.intro; refine ⟨?_, ?_⟩
    ·rintro w ⟨r1, r2, r3, r4, r5⟩; go_simp; try with_reducible rfl
    simp only [Act.put, List.setIfInBounds_toArray, List.set_cons_succ, List.set_cons_zero]
    refine Lim.stepR 6 (fun _ => trivial) rfl (by kernel_rfl) (fun _ _ _ _ h => h) hC rfl ?_; apply Exists.intro; refine ⟨?_, ?_⟩
    ·rintro w ⟨r1, r2, r3, r4, r5⟩; go_simp; try with_reducible rfl
    simp only [Act.put, List.setIfInBounds_toArray, List.set_cons_succ, List.set_cons_zero]
    refine Lim.stepR 7 (fun _ => trivial) rfl (by kernel_rfl) (fun _ _ _ _ h => h) hC rfl ?_; apply Exists.intro; refine ⟨?_, ?_⟩
    ·rintro w ⟨r1, r2, r3, r4, r5⟩; go_simp; try with_reducible rfl
    simp only [Act.put, List.setIfInBounds_toArray, List.set_cons_succ, List.set_cons_zero]
    refine Lim.stepR 8 (fun _ => trivial) rfl (by kernel_rfl) (fun _ _ _ _ h => h) hC rfl ?_; apply Exists.intro; refine ⟨?_, ?_⟩
    ·rintro w ⟨r1, r2, r3, r4, r5⟩; go_simp; try with_reducible rfl
    simp only [Act.put, List.setIfInBounds_toArray, List.set_cons_succ, List.set_cons_zero]
    refine Lim.stepR 9 (fun _ => trivial) rfl (by kernel_rfl) (fun _ _ _ _ h => h) hC rfl ?_; apply Exists.intro; refine ⟨?_, ?_⟩
    ·rintro w ⟨r1, r2, r3, r4, r5⟩; go_simp; try with_reducible rfl
    simp only [Act.put, List.setIfInBounds_toArray, List.set_cons_succ, List.set_cons_zero]
    refine Lim.stepR 10 (fun _ => trivial) rfl (by kernel_rfl) (fun _ _ _ _ h => h) hC rfl ?_; apply Exists.intro; refine ⟨?_, ?_⟩
    ·rintro w ⟨r1, r2, r3, r4, r5⟩; go_simp; try with_reducible rfl
    simp only [Act.put, List.setIfInBounds_toArray, List.set_cons_succ, List.set_cons_zero]
    refine Lim.stepR 11 (fun _ => trivial) rfl (by kernel_rfl) (fun _ _ _ _ h => h) hC rfl ?_; apply Exists.intro; refine ⟨?_, ?_⟩
    ·rintro w ⟨r1, r2, r3, r4, r5⟩; go_simp; try with_reducible rfl
    simp only [Act.put, List.setIfInBounds_toArray, List.set_cons_succ, List.set_cons_zero]
    refine Lim.stepR 12 (fun _ => trivial) rfl (by kernel_rfl) (fun _ _ _ _ h => h) hC rfl ?_; apply Exists.intro; refine ⟨?_, ?_⟩
    ·rintro w ⟨r1, r2, r3, r4, r5⟩; go_simp; try with_reducible rfl
    simp only [Act.put, List.setIfInBounds_toArray, List.set_cons_succ, List.set_cons_zero]
    refine Lim.stepR 13 (fun _ => trivial) rfl (by kernel_rfl) (fun _ _ _ _ h => h) hC rfl ?_; apply Exists.intro; refine ⟨?_, ?_⟩
    ·rintro w ⟨r1, r2, r3, r4, r5⟩; go_simp; try with_reducible rfl
    simp only [Act.put, List.setIfInBounds_toArray, List.set_cons_succ, List.set_cons_zero]
    refine Lim.stepR 14 (fun _ => trivial) rfl (by kernel_rfl) (fun _ _ _ _ h => h) hC rfl ?_; apply Exists.intro; refine ⟨?_, ?_⟩
    ·rintro w ⟨r1, r2, r3, r4, r5⟩; go_simp; try with_reducible rfl
    simp only [Act.put, List.setIfInBounds_toArray, List.set_cons_succ, List.set_cons_zero]
    refine Lim.stepR 15 (fun _ => trivial) rfl (by kernel_rfl) (fun _ _ _ _ h => h) hC rfl ?_; apply Exists.intro; refine ⟨?_, ?_⟩
    ·rintro w ⟨r1, r2, r3, r4, r5⟩; go_simp; try with_reducible rfl
    simp only [Act.put, List.setIfInBounds_toArray, List.set_cons_succ, List.set_cons_zero]
    refine Lim.stepR 16 (fun _ => trivial) rfl (by kernel_rfl) (fun _ _ _ _ h => h) hC rfl ?_; apply Exists.intro; refine ⟨?_, ?_⟩
    ·rintro w ⟨r1, r2, r3, r4, r5⟩; go_simp; try with_reducible rfl
    simp only [Act.put, List.setIfInBounds_toArray, List.set_cons_succ, List.set_cons_zero]
    refine Lim.stepR 17 (fun _ => trivial) rfl (by kernel_rfl) (fun _ _ _ _ h => h) hC rfl ?_; apply Exists.intro; refine ⟨?_, ?_⟩
    ·rintro w ⟨r1, r2, r3, r4, r5⟩; go_simp; try with_reducible rfl
    simp only [Act.put, List.setIfInBounds_toArray, List.set_cons_succ, List.set_cons_zero]
    refine Lim.stepR 18 (fun _ => trivial) rfl (by kernel_rfl) (fun _ _ _ _ h => h) hC rfl ?_; apply Exists.intro; refine ⟨?_, ?_⟩
    ·rintro w ⟨r1, r2, r3, r4, r5⟩; go_simp; try with_reducible rfl
    simp only [Act.put, List.setIfInBounds_toArray, List.set_cons_succ, List.set_cons_zero]
    refine Lim.stepX 19 (fun _ => trivial) rfl (by kernel_rfl) rfl rfl (fun K hK => ?_)   -- E entryStore
    go_simp
    refine hK _ _ ?_
    simp only [Act.put, List.setIfInBounds_toArray, List.set_cons_succ, List.set_cons_zero]
    refine Lim.segC (fun _ => True) [] ?_
    refine Lim.stepD (by kernel_rfl) ?_
    clear hC hlk hme hes
    go_wp2_with fail
    refine Lim.regC' (fun W => W.cell? ⟨bf, 4, none⟩ = some (.map (some bm)) ∧ W.cell? ⟨gl, i, none⟩ = some (.int .i64 a) ∧ W.cell? ⟨gl, i + 1, none⟩ = some (.int .i64 b) ∧ (Instr.lookup 106 (.map (some bm)) (.agg #[.int .i64 b, .int .i64 a]) false).run Try.prog W = .ok (.int .i64 r1) W ∧ (Instr.mapEntry 106 (.map (some bm)) (.agg #[.int .i64 b, .int .i64 a])).run Try.prog W = .ok (.tuple #[.int .i64 r1, .int .i64 st2]) W) [19] #[false, false, false, false, false, false, false, false, false, false, false, false, false, false, false, false, false, false, false, false] (by kernel_rfl) rfl ?_
    refine Lim.stepR 0 (fun _ => trivial) rfl (by kernel_rfl) (fun _ _ _ _ h => h) hD rfl ?_; apply Exists.intro; refine ⟨?_, ?_⟩
    ·rintro w ⟨r1, r2, r3, r4, r5⟩; go_simp; try with_reducible rfl
    simp only [Act.put, List.setIfInBounds_toArray, List.set_cons_succ, List.set_cons_zero]
    refine Lim.stepR 1 (fun _ => trivial) rfl (by kernel_rfl) (fun _ _ _ _ h => h) hD rfl ?_; apply Exists.intro; refine ⟨?_, ?_⟩
    ·rintro w ⟨r1, r2, r3, r4, r5⟩; go_simp; try with_reducible rfl
    simp only [Act.put, List.setIfInBounds_toArray, List.set_cons_succ, List.set_cons_zero]
    refine Lim.stepR 2 (fun _ => trivial) rfl (by kernel_rfl) (fun _ _ _ _ h => h) hD rfl ?_; apply Exists.intro; refine ⟨?_, ?_⟩
    ·rintro w ⟨r1, r2, r3, r4, r5⟩; go_simp; try with_reducible rfl
    simp only [Act.put, List.setIfInBounds_toArray, List.set_cons_succ, List.set_cons_zero]
    refine Lim.stepR 3 (fun _ => trivial) rfl (by kernel_rfl) (fun _ _ _ _ h => h) hD rfl ?_; apply Exists.intro; refine ⟨?_, ?_⟩
    ·rintro w ⟨r1, r2, r3, r4, r5⟩; go_simp; try with_reducible rfl
    simp only [Act.put, List.setIfInBounds_toArray, List.set_cons_succ, List.set_cons_zero]
    refine Lim.stepR 4 (fun _ => trivial) rfl (by kernel_rfl) (fun _ _ _ _ h => h) hD rfl ?_; apply Exists.intro; refine ⟨?_, ?_⟩
    ·rintro w ⟨r1, r2, r3, r4, r5⟩; go_simp; try with_reducible rfl
    simp only [Act.put, List.setIfInBounds_toArray, List.set_cons_succ, List.set_cons_zero]
    refine Lim.stepR 5 (fun _ => trivial) rfl (by kernel_rfl) (fun _ _ _ _ h => h) hD rfl ?_; apply Exists.intro; refine ⟨?_, ?_⟩
    ·rintro w ⟨r1, r2, r3, r4, r5⟩; go_simp; try with_reducible rfl
    simp only [Act.put, List.setIfInBounds_toArray, List.set_cons_succ, List.set_cons_zero]
    refine Lim.stepR 6 (fun _ => trivial) rfl (by kernel_rfl) (fun _ _ _ _ h => h) hD rfl ?_; apply Exists.intro; refine ⟨?_, ?_⟩
    ·rintro w ⟨r1, r2, r3, r4, r5⟩; go_simp; try with_reducible rfl
    simp only [Act.put, List.setIfInBounds_toArray, List.set_cons_succ, List.set_cons_zero]
    refine Lim.stepR 7 (fun _ => trivial) rfl (by kernel_rfl) (fun _ _ _ _ h => h) hD rfl ?_; apply Exists.intro; refine ⟨?_, ?_⟩
    ·rintro w ⟨r1, r2, r3, r4, r5⟩; go_simp; try with_reducible rfl
    simp only [Act.put, List.setIfInBounds_toArray, List.set_cons_succ, List.set_cons_zero]
    refine Lim.stepR 8 (fun _ => trivial) rfl (by kernel_rfl) (fun _ _ _ _ h => h) hD rfl ?_; apply Exists.intro; refine ⟨?_, ?_⟩
    ·rintro w ⟨r1, r2, r3, r4, r5⟩; go_simp; try with_reducible rfl
    simp only [Act.put, List.setIfInBounds_toArray, List.set_cons_succ, List.set_cons_zero]
    refine Lim.stepR 9 (fun _ => trivial) rfl (by kernel_rfl) (fun _ _ _ _ h => h) hD rfl ?_; apply Exists.intro; refine ⟨?_, ?_⟩
    ·rintro w ⟨r1, r2, r3, r4, r5⟩; go_simp; try with_reducible rfl
    simp only [Act.put, List.setIfInBounds_toArray, List.set_cons_succ, List.set_cons_zero]
    refine Lim.stepR 10 (fun _ => trivial) rfl (by kernel_rfl) (fun _ _ _ _ h => h) hD rfl ?_; apply Exists.intro; refine ⟨?_, ?_⟩
    ·rintro w ⟨r1, r2, r3, r4, r5⟩; go_simp; try with_reducible rfl
    simp only [Act.put, List.setIfInBounds_toArray, List.set_cons_succ, List.set_cons_zero]
    refine Lim.stepR 11 (fun _ => trivial) rfl (by kernel_rfl) (fun _ _ _ _ h => h) hD rfl ?_; apply Exists.intro; refine ⟨?_, ?_⟩
    ·rintro w ⟨r1, r2, r3, r4, r5⟩; go_simp; try with_reducible rfl
    simp only [Act.put, List.setIfInBounds_toArray, List.set_cons_succ, List.set_cons_zero]
    refine Lim.stepR 12 (fun _ => trivial) rfl (by kernel_rfl) (fun _ _ _ _ h => h) hD rfl ?_; apply Exists.intro; refine ⟨?_, ?_⟩
    ·rintro w ⟨r1, r2, r3, r4, r5⟩; go_simp; try with_reducible rfl
    simp only [Act.put, List.setIfInBounds_toArray, List.set_cons_succ, List.set_cons_zero]
    refine Lim.stepR 13 (fun _ => trivial) rfl (by kernel_rfl) (fun _ _ _ _ h => h) hD rfl ?_; apply Exists.intro; refine ⟨?_, ?_⟩
    ·rintro w ⟨r1, r2, r3, r4, r5⟩; go_simp; try with_reducible rfl
    simp only [Act.put, List.setIfInBounds_toArray, List.set_cons_succ, List.set_cons_zero]
    refine Lim.stepR 14 (fun _ => trivial) rfl (by kernel_rfl) (fun _ _ _ _ h => h) hD rfl ?_; apply Exists.intro; refine ⟨?_, ?_⟩
    ·rintro w ⟨r1, r2, r3, r4, r5⟩; go_simp; try with_reducible rfl
    simp only [Act.put, List.setIfInBounds_toArray, List.set_cons_succ, List.set_cons_zero]
    refine Lim.stepR 15 (fun _ => trivial) rfl (by kernel_rfl) (fun _ _ _ _ h => h) hD rfl ?_; apply Exists.intro; refine ⟨?_, ?_⟩
    ·rintro w ⟨r1, r2, r3, r4, r5⟩; go_simp; try with_reducible rfl
    simp only [Act.put, List.setIfInBounds_toArray, List.set_cons_succ, List.set_cons_zero]
    refine Lim.stepR 16 (fun _ => trivial) rfl (by kernel_rfl) (fun _ _ _ _ h => h) hD rfl ?_; apply Exists.intro; refine ⟨?_, ?_⟩
    ·rintro w ⟨r1, r2, r3, r4, r5⟩; go_simp; try with_reducible rfl
    simp only [Act.put, List.setIfInBounds_toArray, List.set_cons_succ, List.set_cons_zero]
    refine Lim.stepR 17 (fun _ => trivial) rfl (by kernel_rfl) (fun _ _ _ _ h => h) hD rfl ?_; apply Exists.intro; refine ⟨?_, ?_⟩
    ·rintro w ⟨r1, r2, r3, r4, r5⟩; go_simp; try with_reducible rfl
    simp only [Act.put, List.setIfInBounds_toArray, List.set_cons_succ, List.set_cons_zero]
    refine Lim.stepR 18 (fun _ => trivial) rfl (by kernel_rfl) (fun _ _ _ _ h => h) hD rfl ?_; apply Exists.intro; refine ⟨?_, ?_⟩
    ·rintro w ⟨r1, r2, r3, r4, r5⟩; go_simp; try with_reducible rfl
    simp only [Act.put, List.setIfInBounds_toArray, List.set_cons_succ, List.set_cons_zero]
    refine Lim.stepX 19 (fun _ => trivial) rfl (by kernel_rfl) rfl rfl (fun K hK => ?_)   -- E entryStore
    go_simp
    refine hK _ _ ?_
    simp only [Act.put, List.setIfInBounds_toArray, List.set_cons_succ, List.set_cons_zero]
    refine Lim.segC (fun _ => True) [] ?_
    refine Lim.stepD (by kernel_rfl) ?_
    clear hD hlk2 hme2 hes2
    go_wp2_with fail
    go_roundw
    case rel => exact ⟨i + 1, by omega, by go_num, hfin⟩
    case measure => simp [intOf]; omega
   ·have hil' : ¬ (i : Int) < ℓ := by omega
    obtain rfl : i = ℓ := by omega
    have HFM := Lib.hid (hI.out.2.2.1.more (hsF_symm HM.out.w0) HWY.out.1 (fun k hk => HDB.out.2.1.ins k hk) HWY.out.2.1 HDB.out.2.2)
    rw [HWY.out.2.2.1, Nat.add_sub_cancel] at HFM
    go_wp2_with fail
    refine (reaches_any HM.out hP.out.2.1).mono ?_
    intro e w5 hans
    obtain ⟨hg5, M5, Fr5, rk5, t5, y5, rfl, hfl, hfd⟩ := hans.found
    have H6 : Hid (Below w.heap.size w w5 ∧ FlE w5 B bf bm m.n m.wd 400 oa oc (.slice ea m.n ec) (.slice sa m.n sc) m.os M5 Fr5 (rmP R k L i) ∧ Found m (rmP R k L i) M5 Fr5 rk5 t5 y5) :=
     Lib.hid ⟨hP.out.1.trans ((Sep.of_grown hg5).below hP.out.1.size (fun x hx => by cases hx; exact HBM.out.1)), hfl, hfd⟩
    clear hans hg5 hfl hfd hrp
    go_wp2_with fail
    refine HJ.out.2 _ _ ?_
    refine .intro ((valMax m.n m.own (hsF m.n m.wd E S) - value m.n m.own (fun x y => g x y + k * along L x y)).toNat) ?_ (HJ.out.1 _ _ _ ⟨M5, Fr5, rmP R k L i, _, rk5, t5, y5, by unfold FrF; rfl, rfl, Lib.hid ⟨H6.out.1, H6.out.2.1, HFM.out.1, H6.out.2.2, rfl⟩⟩)
    have v1 := value_le HFM.out.1.fl
    have v2 := HFM.out.2
    have v3 := hI.out.2.2.2.2
    have v4 := HWY.out.1.c0
    omega
end Go.Proofs.Ytkjcnkkmhkcddaa
