/-
  Parts of the proof, in the order in which they build: EwN.
-/
import Derived.Deep.CutRange
import Derived.Test.YtkjcnkkmhkcddaaA37
import Derived.Test.YtkjcnkkmhkcddaaA40
set_option linter.unusedVariables false
set_option linter.unusedSimpArgs false
namespace Go.Proofs.Ytkjcnkkmhkcddaa
open Go.RowKit Go.Shelf
open Lim

attribute [local go_sem] Oper.semAt_some

/-- what Proves answers -/
def ProAns (wd : Int) (os es ss : List Int) (ws : List (List Int × Int)) (w : World) (e : Ending) (w' : World) : Prop :=
 Below w.heap.size w w' ∧ ((errL wd os es ss ≠ 0 ∧ e = .returned (.tuple #[.int .i64 0, .int .i64 (errL wd os es ss)])) ∨
  (errL wd os es ss = 0 ∧ ((wErr os.length ws ≠ 0 ∧ e = .returned (.tuple #[.int .i64 0, .int .i64 (wErr os.length ws)])) ∨
   (wErr os.length ws = 0 ∧ ((PGood ⟨wd.toNat, os⟩ (fun a b => (hsF os.length wd.toNat (fun k => es.getD k 0) (fun k => ss.getD k 0) a b).getD 0) (natW ws) ∧ e = .returned (.tuple #[.int .i64 (wtot (natW ws)), .int .i64 0])) ∨
    (¬ PGood ⟨wd.toNat, os⟩ (fun a b => (hsF os.length wd.toNat (fun k => es.getD k 0) (fun k => ss.getD k 0) a b).getD 0) (natW ws) ∧ e = .returned (.tuple #[.int .i64 0, .int .i64 9])))))))
theorem any_wk {ws : List (List Int × Int)} {p : List Int × Int → Bool} : ((List.range ws.length).any fun k => p (ws.getD k ([], 0))) = true ↔ ∃ w ∈ ws, p w = true := by
 rw [List.any_eq_true]
 constructor
 ·rintro ⟨k, hk, h⟩
  have hk := List.mem_range.1 hk
  rw [List.getD_eq_getElem?_getD, List.getElem?_eq_getElem hk] at h
  exact ⟨_, List.getElem_mem hk, h⟩
 ·rintro ⟨w, hw, h⟩
  obtain ⟨k, hk, rfl⟩ := List.mem_iff_getElem.1 hw
  exact ⟨k, List.mem_range.2 hk, by rw [List.getD_eq_getElem?_getD, List.getElem?_eq_getElem hk]; exact h⟩
theorem all_nn {xs : List Int} {n : Nat} : ((List.range xs.length).all fun k => inB (xs.getD k 0) 0 ((n : Int) - 1)) = true ↔ ∀ p ∈ xs, 0 ≤ p ∧ p < n := by
 rw [List.all_eq_true]
 constructor
 ·intro h x hx
  obtain ⟨k, hk, rfl⟩ := List.mem_iff_getElem.1 hx
  have h1 := h k (List.mem_range.2 hk)
  rw [List.getD_eq_getElem?_getD, List.getElem?_eq_getElem hk] at h1
  have h1 := inB_iff.1 h1
  simp only [Option.getD_some] at h1
  exact ⟨h1.1, by omega⟩
 ·intro h k hk
  have hk := List.mem_range.1 hk
  have h1 := h _ (List.getElem_mem hk)
  rw [List.getD_eq_getElem?_getD, List.getElem?_eq_getElem hk]
  simp only [Option.getD_some]
  exact inB_true h1.1 (by omega)
/-- between neighbours there are houses -/
theorem nb_hsF {m : Mp} (hm : m.Ok) {E S : Nat → Int} {a b : Nat} (ha : a < m.n) (h : nb m a b) : (hsF m.n m.wd E S a b).isSome = true ∧ (hsF m.n m.wd E S b a).isSome = true := by
 have key : eas m.n m.wd a b ∨ sou m.n m.wd a b ∨ eas m.n m.wd b a ∨ sou m.n m.wd b a := by
  have hb := nb_lt hm ha h
  rcases mem_nbr.1 h with ⟨h1, h2⟩ | ⟨h1, h2⟩ | ⟨h1, h2⟩ | ⟨h1, h2⟩
  ·have e : a = b + 1 := by have := mod_pred hm.w0 h1; omega
   subst e
   have h3 := (mod_pred hm.w0 h1).1
   simp only [Nat.add_sub_cancel] at h3
   have h4 := Nat.mod_lt (b + 1) hm.w0
   exact .inr (.inr (.inl ((eas_iff hm.w0 hm.dv hb).2 (by omega))))
  ·have e : b = a + 1 := by omega
   subst e
   exact .inl ((eas_iff hm.w0 hm.dv ha).2 h1)
  ·have e : a = b + m.wd := by omega
   subst e
   exact .inr (.inr (.inr ⟨rfl, ha⟩))
  ·have e : b = a + m.wd := by omega
   subst e
   exact .inr (.inl ⟨rfl, h1⟩)
 have one : ∀ x y, eas m.n m.wd x y ∨ sou m.n m.wd x y ∨ eas m.n m.wd y x ∨ sou m.n m.wd y x → (hsF m.n m.wd E S x y).isSome = true := fun x y h => by
  unfold hsF
  by_cases h1 : eas m.n m.wd x y
  ·rw [if_pos h1]; rfl
  ·rw [if_neg h1]
   by_cases h2 : sou m.n m.wd x y
   ·rw [if_pos h2]; rfl
   ·rw [if_neg h2]
    by_cases h3 : eas m.n m.wd y x
    ·rw [if_pos h3]; rfl
    ·rw [if_neg h3]
     by_cases h4 : sou m.n m.wd y x
     ·rw [if_pos h4]; rfl
     ·rcases h with h | h | h | h
      ·exact absurd h h1
      ·exact absurd h h2
      ·exact absurd h h3
      ·exact absurd h h4
 exact ⟨one a b key, one b a (by rcases key with h | h | h | h <;> simp [h])⟩
theorem use2_step {L : List Nat} {i a b x y : Nat} (ha : L[i]? = some a) (hb : L[i + 1]? = some b) : use2 (L.take (i + 1 + 1)) x y = use2 (L.take (i + 1)) x y + ((if x = a ∧ y = b then 1 else 0) + (if y = a ∧ x = b then 1 else 0)) := by
 have ht : L.take (i + 1 + 1) = L.take (i + 1) ++ [b] := by rw [List.take_add_one, hb]; rfl
 have hl : (L.take (i + 1)).getLast? = some a := by rw [List.take_add_one, ha]; simp
 unfold use2
 rw [ht, dirc_snoc b x y _ a hl, dirc_snoc b y x _ a hl]
 omega
theorem step_one {a b lo hi : Nat} (h : (lo = a ∧ hi = b) ∨ (lo = b ∧ hi = a)) (hlt : lo < hi) : ((if lo = a ∧ hi = b then (1 : Int) else 0) + (if hi = a ∧ lo = b then 1 else 0)) = 1 := by
 rcases h with ⟨rfl, rfl⟩ | ⟨rfl, rfl⟩
 ·rw [if_pos ⟨rfl, rfl⟩, if_neg (by omega)]; rfl
 ·rw [if_neg (by omega), if_pos ⟨rfl, rfl⟩]; rfl
theorem step_zero {a b lo hi x y : Nat} (h : (lo = a ∧ hi = b) ∨ (lo = b ∧ hi = a)) (hlt : x < y) (e : ¬ (x = lo ∧ y = hi)) (hl : lo < hi := by omega) : ((if x = a ∧ y = b then (1 : Int) else 0) + (if y = a ∧ x = b then 1 else 0)) = 0 := by
 rcases h with ⟨rfl, rfl⟩ | ⟨rfl, rfl⟩
 ·rw [if_neg e, if_neg (by omega)]; rfl
 ·rw [if_neg (by omega), if_neg (fun h => e ⟨h.2, h.1⟩)]; rfl
/-- what Proves keeps: the land in block q, what is left in block bm -/
structure PrM (w : World) (q bm wd : Nat) (ov ev sv : Value) (F : Nat → Nat → Option Int) (W : World) : Prop where
 be : Below w.heap.size w W
 ld : LdAt W q wd ov ev sv
 mp : MapS W bm 400 F
 lt : w.heap.size ≤ q ∧ w.heap.size ≤ bm ∧ q ≠ bm
theorem PrM.on {w W W' : World} {q bm wd : Nat} {ov ev sv : Value} {F : Nat → Nat → Option Int} (h : PrM w q bm wd ov ev sv F W) (hb : Below W.heap.size W W') : PrM w q bm wd ov ev sv F W' :=
 ⟨h.be.trans (hb.mono h.be.size), h.ld.on hb, h.mp.sep (T := fun _ => False) (Sep.of_below hb) (fun x => x), h.lt⟩
theorem PrM.put {w W W' : World} {q bm wd : Nat} {ov ev sv : Value} {F G : Nat → Nat → Option Int} (h : PrM w q bm wd ov ev sv F W) (hg : W.grownBy W' (some bm)) (hm : MapS W' bm 400 G) : PrM w q bm wd ov ev sv G W' :=
 have hs := Sep.of_grown hg
 ⟨h.be.trans (hs.below h.be.size (fun k hk => by cases hk; exact h.lt.2.1)), h.ld.sep hs (fun hk => h.lt.2.2 (by cases hk; rfl)), hm, h.lt⟩
set_option maxRecDepth 100000 in
set_option maxHeartbeats 4000000 in
theorem Proves_any {B : Nat} {wd : Int} {ov ev sv wv : Value} {os es ss : List Int} {ws : List (List Int × Int)} {w : World} (hl : os.length ≤ 100000 ∧ es.length ≤ 100000 ∧ ss.length ≤ 100000) (hwl : ws.length ≤ 100000) (hB : B ≤ w.heap.size) (hv : RS B w ov os.length (ints os)) (he : RS B w ev es.length (ints es)) (hs : RS B w sv ss.length (ints ss)) (hw : WkR B w wv ws) (hpl : ∀ x ∈ ws, x.1.length ≤ 100000) :
  Calls Try.prog 43 #[.agg #[.int .i64 wd, ov, ev, sv], wv] w fun e w' => ProAns wd os es ss ws w e w' := by
 have hb0 : Below w.heap.size w (w.alloc (.cells #[.int .i64 wd, ov, ev, sv] 44)) := (Below.refl _ w).alloc (Nat.le_refl _) _
 have HC := Lib.hid (CheckLand_any (wd := wd) (w := w.alloc (.cells #[.int .i64 wd, ov, ev, sv] 44)) hl (Nat.le_trans hB hb0.size) (hv.below (hb0.mono hB)) (he.below (hb0.mono hB)) (hs.below (hb0.mono hB)))
 have HB0 := Lib.hid (And.intro hB hb0)
 have HV := Lib.hid (And.intro hv (And.intro he (And.intro hs hw)))
 have HWL := Lib.hid (And.intro hwl hpl)
 obtain ⟨oa, oc, rfl, -⟩ := hv
 obtain ⟨ea, ec, rfl, -⟩ := he
 obtain ⟨sa, sc, rfl, -⟩ := hs
 obtain ⟨wa, wc, rfl, -⟩ := hw
 have f0 : (w.alloc (.cells #[.int .i64 wd, .slice oa os.length oc, .slice ea es.length ec, .slice sa ss.length sc] 44)).cell? ⟨w.heap.size, 0, none⟩ = some (.int .i64 wd) := by simp [go_sem]
 have f1 : (w.alloc (.cells #[.int .i64 wd, .slice oa os.length oc, .slice ea es.length ec, .slice sa ss.length sc] 44)).cell? ⟨w.heap.size, 1, none⟩ = some (.slice oa os.length oc) := by simp [go_sem]
 have f2 : (w.alloc (.cells #[.int .i64 wd, .slice oa os.length oc, .slice ea es.length ec, .slice sa ss.length sc] 44)).cell? ⟨w.heap.size, 2, none⟩ = some (.slice ea es.length ec) := by simp [go_sem]
 have f3 : (w.alloc (.cells #[.int .i64 wd, .slice oa os.length oc, .slice ea es.length ec, .slice sa ss.length sc] 44)).cell? ⟨w.heap.size, 3, none⟩ = some (.slice sa ss.length sc) := by simp [go_sem]
 clear hl hB hb0 hwl hpl
 go_enter Try.func43, Try.ntmps43
 go_wp2_with fail
 generalize w.alloc (.cells #[.int .i64 wd, .slice oa os.length oc, .slice ea es.length ec, .slice sa ss.length sc] 44) = w1 at HB0 HC f0 f1 f2 f3 ⊢
 refine HC.out.mono ?_
 rintro e w2 ⟨rfl, hb⟩
 replace f0 := hb.on f0
 replace f1 := hb.on f1
 replace f2 := hb.on f2
 replace f3 := hb.on f3
 have HB2 := Lib.hid (HB0.out.2.trans (hb.mono HB0.out.2.size))
 have HQ2 : Hid (w.heap.size < w2.heap.size) := Lib.hid (World.block_lt_of_cell? _ _ f0)
 clear hb HC
 by_cases hr : errL wd os es ss = 0
 ·have g1 : (errL wd os es ss != 0) = false := by simp [hr]
  have HR := Lib.hid hr
  obtain ⟨o1, o2, o3, o4, o5, o6, o7, -, -, -⟩ := errL_ok hr
  clear hr
  obtain ⟨wn, hwn⟩ : ∃ n : Nat, wd = n := ⟨wd.toNat, o2⟩
  subst hwn
  have o1' : Mp.Ok ⟨wn, os⟩ := o1
  rw [o3] at f2
  rw [o4] at f3
  have HK := Lib.hid (And.intro o1' (And.intro o3 (And.intro o4 (And.intro o6 o7))))
  clear o1 o1' o2 o3 o4 o5 o6 o7
  obtain ⟨n, hn⟩ : ∃ n, n = os.length := ⟨_, rfl⟩
  have HN := Lib.hid hn
  obtain ⟨q, hq⟩ : ∃ q, q = w.heap.size := ⟨_, rfl⟩
  have HQ := Lib.hid hq
  rw [← hq] at f0 f1 f2 f3
  rw [← hn] at f1 f2 f3
  rw [← hq]
  clear hq
  have hn100 : n ≤ 100 := by rw [hn]; exact HK.out.1.n1
  clear hn
  go_upto_region 5 with (fail)
  have hal : Below w2.heap.size w2 (w2.alloc (.cells #[.func (.func 78) #[] #[.pointer (some ⟨q, 0, none⟩)]] 124)) := (Below.refl _ w2).alloc (Nat.le_refl _) _
  replace f0 := hal.on f0
  replace f1 := hal.on f1
  replace f2 := hal.on f2
  replace f3 := hal.on f3
  have f7 : (w2.alloc (.cells #[.func (.func 78) #[] #[.pointer (some ⟨q, 0, none⟩)]] 124)).cell? ⟨w2.heap.size, 0, none⟩ = some (.func (.func 78) #[] #[.pointer (some ⟨q, 0, none⟩)]) := by simp [go_sem]
  have HB3 : Hid (Below w.heap.size w (w2.alloc (.cells #[.func (.func 78) #[] #[.pointer (some ⟨q, 0, none⟩)]] 124)) ∧ w.heap.size ≤ q) := Lib.hid ⟨HB2.out.trans (hal.mono HB2.out.size), by rw [HQ.out]; exact Nat.le_refl _⟩
  generalize w2.alloc (.cells #[.func (.func 78) #[] #[.pointer (some ⟨q, 0, none⟩)]] 124) = w3 at HB3 f0 f1 f2 f3 f7 ⊢
  obtain ⟨q7, hq7⟩ : ∃ x, x = w2.heap.size := ⟨_, rfl⟩
  rw [← hq7] at f7 ⊢
  clear hal hq7 HB2 HQ2
  have HBw : Hid (∀ W, Below w.heap.size w W → WkR B W (.slice wa ws.length wc) ws ∧ B ≤ W.heap.size) := Lib.hid fun W h => ⟨HV.out.2.2.2.below (h.mono HB0.out.1), Nat.le_trans HB0.out.1 h.size⟩
  have HFIN : Hid (∀ (W : World) (e : Ending), Below w.heap.size w W → ((wErr n ws ≠ 0 ∧ e = .returned (.tuple #[.int .i64 0, .int .i64 (wErr n ws)])) ∨ (wErr n ws = 0 ∧ ((PGood ⟨wn, os⟩ (fun a b => (hsF n wn (fun k => es.getD k 0) (fun k => ss.getD k 0) a b).getD 0) (natW ws) ∧ e = .returned (.tuple #[.int .i64 (wtot (natW ws)), .int .i64 0])) ∨
    (¬ PGood ⟨wn, os⟩ (fun a b => (hsF n wn (fun k => es.getD k 0) (fun k => ss.getD k 0) a b).getD 0) (natW ws) ∧ e = .returned (.tuple #[.int .i64 0, .int .i64 9]))))) → ProAns wn os es ss ws w e W) := Lib.hid fun W e h1 h2 => by
   rw [HN.out] at h2
   exact ⟨h1, .inr ⟨HR.out, h2⟩⟩
  by_cases h5 : 2000 < ws.length
  ·have d5 : decide ((2000 : Int) < (ws.length : Int)) = true := by simp; omega
   have HE : Hid (wErr n ws = 3) := Lib.hid (by rw [wErr, if_pos (.inl h5)])
   clear h5
   go_wp2_with fail
   go_ret2
   exact HFIN.out _ _ HB3.out.1 (.inl ⟨by rw [HE.out]; decide, by rw [HE.out]; rfl⟩)
  ·have d5 : decide ((2000 : Int) < (ws.length : Int)) = false := by simp; omega
   have H5 := Lib.hid h5
   clear h5
   have HE5 := Lib.hid (containsFunc_walks (B := B) (f := 81) (lb := #[]) (p := fun k => decide (100 < (ws.getD k ([], 0)).1.length)) (w := w3) (enters_of Try.func81 (by kernel_rfl) rfl) HWL.out.1 (HBw.out _ HB3.out.1).1 (HBw.out _ HB3.out.1).2 (fun k hk W hb pa pc hr => by
    simp only [Array.append_empty]
    exact pr2_any _ W))
   go_wp2_with fail
   refine HE5.out.mono ?_
   rintro e w4 ⟨rfl, hb⟩
   replace f0 := hb.on f0
   replace f1 := hb.on f1
   replace f2 := hb.on f2
   replace f3 := hb.on f3
   replace f7 := hb.on f7
   have HB4 : Hid (Below w.heap.size w w4 ∧ w.heap.size ≤ q) := Lib.hid ⟨HB3.out.1.trans (hb.mono HB3.out.1.size), HB3.out.2⟩
   clear hb HB3 HE5
   obtain ⟨z, hz⟩ : ∃ z, z = (List.range ws.length).any fun k => decide (100 < (ws.getD k ([], 0)).1.length) := ⟨_, rfl⟩
   rw [← hz]
   have HZ : Hid (z = true ↔ ∃ x ∈ ws, 100 < x.1.length) := Lib.hid (by rw [hz, any_wk (p := fun x => decide (100 < x.1.length))]; simp)
   clear hz
   cases z with
   | true =>
    have HE : Hid (wErr n ws = 3) := Lib.hid (by rw [wErr, if_pos (.inr (HZ.out.1 rfl))])
    go_wp2_with fail
    go_ret2
    exact HFIN.out _ _ HB4.out.1 (.inl ⟨by rw [HE.out]; decide, by rw [HE.out]; rfl⟩)
   | false =>
   have H3 : Hid (¬ (2000 < ws.length ∨ ∃ x ∈ ws, 100 < x.1.length)) := Lib.hid (fun h => h.elim H5.out (fun h => by have := HZ.out.2 h; cases this))
   clear HZ H5
   have HE7 := Lib.hid (containsFunc_walks (B := B) (f := 82) (lb := #[.pointer (some ⟨q7, 0, none⟩)]) (p := fun k => !(List.range (ws.getD k ([], 0)).1.length).all fun j => inB ((ws.getD k ([], 0)).1.getD j 0) 0 ((n : Int) - 1)) (w := w4) (enters_of Try.func82 (by kernel_rfl) rfl) HWL.out.1 (HBw.out _ HB4.out.1).1 (HBw.out _ HB4.out.1).2 (fun k hk W hb pa pc hr => by
    exact pr3_any (B := B) (xs := (ws.getD k ([], 0)).1) _ hn100 (by rw [List.getD_eq_getElem?_getD, List.getElem?_eq_getElem hk]; exact HWL.out.2 _ (List.getElem_mem hk)) (Nat.le_trans (HBw.out _ HB4.out.1).2 hb.size) (hb.on f1) (hb.on f7) hr))
   go_wp2_with fail
   refine HE7.out.mono ?_
   rintro e w5 ⟨rfl, hb⟩
   replace f0 := hb.on f0
   replace f1 := hb.on f1
   replace f2 := hb.on f2
   replace f3 := hb.on f3
   have HB5 : Hid (Below w.heap.size w w5 ∧ w.heap.size ≤ q) := Lib.hid ⟨HB4.out.1.trans (hb.mono HB4.out.1.size), HB4.out.2⟩
   clear hb HB4 HE7 f7
   obtain ⟨z, hz⟩ : ∃ z, z = (List.range ws.length).any fun k => !(List.range (ws.getD k ([], 0)).1.length).all fun j => inB ((ws.getD k ([], 0)).1.getD j 0) 0 ((n : Int) - 1) := ⟨_, rfl⟩
   rw [← hz]
   have HZ : Hid (z = true ↔ ∃ x ∈ ws, ∃ p ∈ x.1, ¬ (0 ≤ p ∧ p < n)) := Lib.hid (by
    rw [hz, any_wk (p := fun x => !(List.range x.1.length).all fun j => inB (x.1.getD j 0) 0 ((n : Int) - 1))]
    refine exists_congr fun x => and_congr_right fun _ => ?_
    rw [Bool.not_eq_true', ← Bool.not_eq_true, all_nn]
    simp only [Classical.not_forall]
    exact ⟨fun ⟨p, h1, h2⟩ => ⟨p, h1, h2⟩, fun ⟨p, h1, h2⟩ => ⟨p, h1, h2⟩⟩)
   clear hz
   cases z with
   | true =>
    have HE : Hid (wErr n ws = 2) := Lib.hid (by rw [wErr, if_neg H3.out, if_pos (HZ.out.1 rfl)])
    go_wp2_with fail
    go_ret2
    exact HFIN.out _ _ HB5.out.1 (.inl ⟨by rw [HE.out]; decide, by rw [HE.out]; rfl⟩)
   | false =>
   have H2 : Hid (¬ ∃ x ∈ ws, ∃ p ∈ x.1, ¬ (0 ≤ p ∧ p < n)) := Lib.hid (fun h => by have := HZ.out.2 h; cases this)
   clear HZ
   have HE9 := Lib.hid (containsFunc_walks (B := B) (f := 83) (lb := #[]) (p := fun k => !inB (ws.getD k ([], 0)).2 1 1000) (w := w5) (enters_of Try.func83 (by kernel_rfl) rfl) HWL.out.1 (HBw.out _ HB5.out.1).1 (HBw.out _ HB5.out.1).2 (fun k hk W hb pa pc hr => by
    simp only [Array.append_empty]
    exact pr4_any _ W))
   go_wp2_with fail
   refine HE9.out.mono ?_
   rintro e w6 ⟨rfl, hb⟩
   replace f0 := hb.on f0
   replace f1 := hb.on f1
   replace f2 := hb.on f2
   replace f3 := hb.on f3
   have HB6 : Hid (Below w.heap.size w w6 ∧ w.heap.size ≤ q) := Lib.hid ⟨HB5.out.1.trans (hb.mono HB5.out.1.size), HB5.out.2⟩
   clear hb HB5 HE9
   obtain ⟨z, hz⟩ : ∃ z, z = (List.range ws.length).any fun k => !inB (ws.getD k ([], 0)).2 1 1000 := ⟨_, rfl⟩
   rw [← hz]
   have HZ : Hid (z = true ↔ ∃ x ∈ ws, ¬ (1 ≤ x.2 ∧ x.2 ≤ 1000)) := Lib.hid (by
    rw [hz, any_wk (p := fun x => !inB x.2 1 1000)]
    refine exists_congr fun x => and_congr_right fun _ => ?_
    rw [Bool.not_eq_true', ← Bool.not_eq_true, inB_iff])
   clear hz
   cases z with
   | true =>
    have HE : Hid (wErr n ws = 4) := Lib.hid (by rw [wErr, if_neg H3.out, if_neg H2.out, if_pos (HZ.out.1 rfl)])
    go_wp2_with fail
    go_ret2
    exact HFIN.out _ _ HB6.out.1 (.inl ⟨by rw [HE.out]; decide, by rw [HE.out]; rfl⟩)
   | false =>
   have H4 : Hid (¬ ∃ x ∈ ws, ¬ (1 ≤ x.2 ∧ x.2 ≤ 1000)) := Lib.hid (fun h => by have := HZ.out.2 h; cases this)
   clear HZ
   have HE0 : Hid (wErr n ws = 0) := Lib.hid (by rw [wErr, if_neg H3.out, if_neg H2.out, if_neg H4.out])
   have HHO := Lib.hid (houses_aux (B := B) (wd := wn) (n := n) (oa := oa) (oc := oc) (ov := .slice oa n oc) (ev := .slice ea n ec) (sv := .slice sa n sc) (es := es) (ss := ss) (E := fun k => es.getD k 0) (S := fun k => ss.getD k 0) (w := w6) (HBw.out _ HB6.out.1).2 rfl
    (by have h := HV.out.2.1.below (HB6.out.1.mono HB0.out.1); rw [HK.out.2.1, ← HN.out] at h ⊢; exact h) (by have h := HV.out.2.2.1.below (HB6.out.1.mono HB0.out.1); rw [HK.out.2.2.1, ← HN.out] at h ⊢; exact h) (by rw [HN.out]; exact HK.out.2.1) (by rw [HN.out]; exact HK.out.2.2.1) hn100 HK.out.1.w0 (by rw [HN.out]; exact HK.out.1.wn) (fun _ => rfl) (fun _ => rfl) (by rw [HN.out]; exact HK.out.2.2.2.1) (by rw [HN.out]; exact HK.out.2.2.2.2))
   go_wp2_with fail
   refine HHO.out.mono ?_
   rintro e w7 ⟨bm, rfl, hbm, hmp, hb⟩
   have HM0 : Hid (PrM w q bm wn (.slice oa n oc) (.slice ea n ec) (.slice sa n sc) (lfF (hsF n wn (fun k => es.getD k 0) (fun k => ss.getD k 0)) (wuse ((natW ws).take 0))) w7) := Lib.hid (by
    refine ⟨HB6.out.1.trans (hb.mono HB6.out.1.size), ⟨hb.on f0, hb.on f1, hb.on f2, hb.on f3⟩, ?_, HB6.out.2, Nat.le_trans HB6.out.1.size hbm, fun e => ?_⟩
    ·have e0 : wuse ((natW ws).take 0) = fun _ _ => 0 := rfl
     rw [e0, lfF_zero]; exact hmp
    ·have := World.block_lt_of_cell? _ _ f0
     have h2 : q < w6.heap.size := this
     omega)
   obtain ⟨hh, hhh⟩ : ∃ h, h = hsF n wn (fun k => es.getD k 0) (fun k => ss.getD k 0) := ⟨_, rfl⟩
   rw [← hhh] at HM0 HFIN
   have HHH := Lib.hid hhh
   have HRG : Hid (∀ a b, 0 ≤ (hh a b).getD 0 ∧ (hh a b).getD 0 ≤ 1000) := Lib.hid (fun a b => by rw [hhh]; exact hsF_range (n := n) (fun k hk => HK.out.2.2.2.1 k (by rw [← HN.out]; exact hk)) (fun k hk => HK.out.2.2.2.2 k (by rw [← HN.out]; exact hk)) a b)
   have HSO : Hid (∀ a b, a < n → nb ⟨wn, os⟩ a b → (hh a b).isSome = true ∧ (hh b a).isSome = true) := Lib.hid (fun a b ha h => by
    have h1 := nb_hsF (E := fun k => es.getD k 0) (S := fun k => ss.getD k 0) HK.out.1 (show a < (Mp.mk wn os).n by show a < os.length; rw [← HN.out]; exact ha) h
    have e : (Mp.mk wn os).n = n := HN.out.symm
    rw [e] at h1
    rw [hhh]
    exact h1)
   clear hhh
   clear hb hbm hmp HHO HB6 f0 f1 f2 f3
   go_wp2_with fail
   go_loopw [9, 40] (fun ov iv wr => ∃ k : Nat, k ≤ ws.length ∧ iv = .int .i64 k ∧ ov = .int .i64 (wtot ((natW ws).take k)) ∧ Hid (PrM w q bm wn (.slice oa n oc) (.slice ea n ec) (.slice sa n sc) (lfF hh (wuse ((natW ws).take k))) wr ∧ (∀ x ∈ (natW ws).take k, goodW ⟨wn, os⟩ x.1 = true) ∧ ∀ a b, a < b → b < n → wuse ((natW ws).take k) a b ≤ (hh a b).getD 0)) (fun _ iv _ => ws.length - (intOf iv).toNat)
   case atStart => exact ⟨0, Nat.zero_le _, rfl, rfl, Lib.hid ⟨HM0.out, fun x hx => by simp at hx, fun a b _ _ => (HRG.out a b).1⟩⟩
   case round =>
    clear HM0
    obtain ⟨k, hk, rfl, rfl, hI⟩ := hrel
    by_cases hlt : k < ws.length
    ·have HBr := Lib.hid (HBw.out wr hI.out.1.be)
     have hk2000 : (k : Int) < 2000 := by
      have h : ¬ 2000 < ws.length := fun h => H3.out (.inl h)
      omega
     obtain ⟨ga, cap, e1, hcell⟩ := HBr.out.1
     cases e1
     obtain ⟨gw, ow, rfl, hgw, hc⟩ := hcell (by omega)
     obtain ⟨pa, pc, y1, y2, y3, y4⟩ := hc k hlt
     obtain ⟨x, hx⟩ : ∃ x, x = ws.getD k ([], 0) := ⟨_, rfl⟩
     rw [← hx] at y1 y2 y3 y4
     have hxk : ws[k]? = some x := by rw [hx, List.getD_eq_getElem?_getD, List.getElem?_eq_getElem hlt]; rfl
     have hxm : x ∈ ws := List.mem_of_getElem? hxk
     obtain ⟨xs, c⟩ := x
     simp only at y1 y2 y3 y4
     obtain ⟨L, hL⟩ : ∃ L, L = xs.map Int.toNat := ⟨_, rfl⟩
     have hin : ∀ p ∈ xs, 0 ≤ p ∧ p < n := fun p hp => Classical.byContradiction fun h => H2.out ⟨_, hxm, p, hp, h⟩
     have hLx : L.map Int.ofNat = xs := by
      rw [hL, List.map_map]
      exact (List.map_congr_left (fun x hx => Int.toNat_of_nonneg (hin x hx).1)).trans (List.map_id xs)
     have hLl : L.length = xs.length := by rw [hL, List.length_map]
     have HLn : Hid (∀ p ∈ L, p < n) := Lib.hid (fun p hp => by
      rw [hL] at hp
      obtain ⟨x, hx, rfl⟩ := List.mem_map.1 hp
      have := hin x hx
      omega)
     have HLk : Hid ((natW ws)[k]? = some (L, c)) := Lib.hid (by rw [natW, List.getElem?_map, hxk, hL]; rfl)
     have HL100 : Hid (L.length ≤ 100) := Lib.hid (by rw [hLl]; exact Nat.le_of_not_lt (fun h => H3.out (.inr ⟨_, hxm, h⟩)))
     have hc1000 : 1 ≤ c ∧ c ≤ 1000 := Classical.byContradiction fun h => H4.out ⟨_, hxm, h⟩
     obtain ⟨hc1, hc2⟩ := hc1000
     obtain ⟨xl, hxl⟩ : ∃ xl, xl = xs.length := ⟨_, rfl⟩
     rw [← hxl] at y1 y3 y4
     have HXL : Hid (xl = L.length) := Lib.hid (by rw [hxl, hLl])
     have hxl100 : xl ≤ 100 := by rw [HXL.out]; exact HL100.out
     have HRL : Hid (∀ W, Below w.heap.size w W → RS B W (.slice pa xl pc) xl (ints (L.map Int.ofNat))) := Lib.hid fun W hW => by
      obtain ⟨ga', cap', e1', hcell'⟩ := HV.out.2.2.2
      cases e1'
      obtain ⟨gw', ow', e2', hgw', hc'⟩ := hcell' (by omega)
      cases e2'
      obtain ⟨pa', pc', z1, z2, z3, z4⟩ := hc' k hlt
      have hz := cell_below ((hI.out.1.be).mono HB0.out.1) z1 hgw'
      rw [← hx] at hz z3
      rw [hz] at y1
      rw [hxl] at y1
      cases y1
      rw [hLx, hxl]
      exact z3.below (hW.mono HB0.out.1)
     have HGO : Hid (∀ W, Below w.heap.size w W → Calls Try.prog 70 #[.agg #[.int .i64 wn, .slice oa n oc], .slice pa xl pc] W fun e w' => e = .returned (.bool (goesB ⟨wn, os⟩ L)) ∧ Below W.heap.size W w') := Lib.hid fun W hW => by
      have h := goes_any (B := B) (m := ⟨wn, os⟩) (L := L) (v := .slice pa L.length pc) (oa := oa) (oc := oc) (w := W) HK.out.1 (by show ∀ p ∈ L, p < os.length; rw [← HN.out]; exact HLn.out) (by have := HL100.out; omega) (Nat.le_trans HB0.out.1 hW.size) (by have h := HRL.out W hW; rw [HXL.out] at h; exact h)
      rw [← HXL.out] at h
      have e : (Mp.mk wn os).n = n := HN.out.symm
      rw [e] at h
      exact h
     clear hcell hc hL hin hLx hLl hxk hxm hx y3 hxl
     obtain ⟨z1, hz1⟩ : ∃ z, z = goesB ⟨wn, os⟩ L := ⟨_, rfl⟩
     rw [← hz1] at HGO
     have HZ1 := Lib.hid hz1
     clear hz1
     go_upto_region 15 with (fail)
     have hal : Below wr.heap.size wr (wr.alloc (.cells #[.slice pa xl pc, .int .i64 c] 83)) := (Below.refl _ wr).alloc (Nat.le_refl _) _
     have HP1 := Lib.hid (hI.out.1.on hal)
     have x0 : (wr.alloc (.cells #[.slice pa xl pc, .int .i64 c] 83)).cell? ⟨wr.heap.size, 0, none⟩ = some (.slice pa xl pc) := by simp [go_sem]
     have x1 : (wr.alloc (.cells #[.slice pa xl pc, .int .i64 c] 83)).cell? ⟨wr.heap.size, 1, none⟩ = some (.int .i64 c) := by simp [go_sem]
     have HQB : Hid (bm < wr.heap.size) := Lib.hid hI.out.1.mp.lt
     generalize wr.alloc (.cells #[.slice pa xl pc, .int .i64 c] 83) = wb at HP1 x0 x1 ⊢
     obtain ⟨q11, hq11⟩ : ∃ x, x = wr.heap.size := ⟨_, rfl⟩
     rw [← hq11] at x0 x1 HQB ⊢
     clear hal hq11 y1 y2
     have HNG : Hid (∀ W, Below w.heap.size w W → ¬ goodW ⟨wn, os⟩ L = true → ProAns wn os es ss ws w (.returned (.tuple #[.int .i64 0, .int .i64 9])) W) := Lib.hid fun W hW hg => HFIN.out _ _ hW (.inr ⟨HE0.out, .inr ⟨fun h => hg (h.1 _ (List.mem_of_getElem? HLk.out)), rfl⟩⟩)
     cases z1 with
     | false =>
      have hC : (fun W => LdAt W q wn (.slice oa n oc) (.slice ea n ec) (.slice sa n sc) ∧ W.cell? ⟨q11, 0, none⟩ = some (.slice pa xl pc)) wb.drew := ⟨HP1.out.ld.on (Below.refl _ wb).drew, x0⟩
      refine Lim.regC' (fun W => LdAt W q wn (.slice oa n oc) (.slice ea n ec) (.slice sa n sc) ∧ W.cell? ⟨q11, 0, none⟩ = some (.slice pa xl pc)) [] #[false, false, false, false, false, false, false, false, false, false, false, false, false, false, false, false, false, false, false, false, false, false, false, false, false, false, false, false, false, false, false, false] (by kernel_rfl) rfl ?_
      refine Lim.stepR 0 (fun _ => trivial) rfl (by kernel_rfl) (fun _ _ _ _ h => h) hC rfl ?_; apply Exists.intro; refine ⟨?_, ?_⟩
      ·rintro w ⟨⟨r1, r2, r3, r4⟩, r5⟩; go_simp; try with_reducible rfl
      simp only [Act.put, List.setIfInBounds_toArray, List.set_cons_succ, List.set_cons_zero]
      refine Lim.stepR 2 (fun _ => trivial) rfl (by kernel_rfl) (fun _ _ _ _ h => h) hC rfl ?_; apply Exists.intro; refine ⟨?_, ?_⟩
      ·rintro w ⟨⟨r1, r2, r3, r4⟩, r5⟩; go_simp; try with_reducible rfl
      simp only [Act.put, List.setIfInBounds_toArray, List.set_cons_succ, List.set_cons_zero]
      refine Lim.stepR 3 (fun _ => trivial) rfl (by kernel_rfl) (fun _ _ _ _ h => h) hC rfl ?_; apply Exists.intro; refine ⟨?_, ?_⟩
      ·rintro w ⟨⟨r1, r2, r3, r4⟩, r5⟩; go_simp; try with_reducible rfl
      simp only [Act.put, List.setIfInBounds_toArray, List.set_cons_succ, List.set_cons_zero]
      refine Lim.stepE 1 (fun _ => trivial) rfl (by kernel_rfl) rfl (fun K hK => ?_)   -- E call
      go_simp
      refine ⟨rfl, (callsIn_wide.2 (plan_any)).mono ?_⟩
      rintro e w9 ⟨rfl, hb9⟩
      have HP9 := Lib.hid (HP1.out.on ((Below.refl _ wb).drew.trans hb9))
      have hC9 : (fun W => LdAt W q wn (.slice oa n oc) (.slice ea n ec) (.slice sa n sc) ∧ W.cell? ⟨q11, 0, none⟩ = some (.slice pa xl pc)) w9 := ⟨hC.1.on hb9, hb9.on hC.2⟩
      refine hK _ _ hC9 ?_
      clear hb9
      simp only [Act.put, List.setIfInBounds_toArray, List.set_cons_succ, List.set_cons_zero]
      refine Lim.stepE 4 (fun _ => trivial) rfl (by kernel_rfl) rfl (fun K hK => ?_)   -- E call
      go_simp
      refine ⟨rfl, (callsIn_wide.2 (HGO.out w9 HP9.out.be)).mono ?_⟩
      rintro e w10 ⟨rfl, hb10⟩
      have HP10 := Lib.hid (HP9.out.on hb10)
      have hC10 : (fun W => LdAt W q wn (.slice oa n oc) (.slice ea n ec) (.slice sa n sc) ∧ W.cell? ⟨q11, 0, none⟩ = some (.slice pa xl pc)) w10 := ⟨hC9.1.on hb10, hb10.on hC9.2⟩
      refine hK _ _ hC10 ?_
      clear hb10
      simp only [Act.put, List.setIfInBounds_toArray, List.set_cons_succ, List.set_cons_zero]
      refine Lim.stepR 5 (fun _ => trivial) rfl (by kernel_rfl) (fun _ _ _ _ h => h) hC10 rfl ?_; apply Exists.intro; refine ⟨?_, ?_⟩
      ·rintro w ⟨⟨r1, r2, r3, r4⟩, r5⟩; go_simp; try with_reducible rfl
      simp only [Act.put, List.setIfInBounds_toArray, List.set_cons_succ, List.set_cons_zero]
      refine Lim.stepR 6 (fun _ => trivial) rfl (by kernel_rfl) (fun _ _ _ _ h => h) hC10 rfl ?_; apply Exists.intro; refine ⟨?_, ?_⟩
      ·rintro w ⟨⟨r1, r2, r3, r4⟩, r5⟩; go_simp; try with_reducible rfl
      simp only [Act.put, List.setIfInBounds_toArray, List.set_cons_succ, List.set_cons_zero]
      refine Lim.stepS 7 (fun _ => trivial) rfl (by kernel_rfl) (fun _ _ _ _ h => h) hC10 rfl ?_
      simp only [Act.put, List.setIfInBounds_toArray, List.set_cons_succ, List.set_cons_zero]
      refine Lim.stepS 8 (fun _ => trivial) rfl (by kernel_rfl) (fun _ _ _ _ h => h) hC10 rfl ?_
      simp only [Act.put, List.setIfInBounds_toArray, List.set_cons_succ, List.set_cons_zero]
      refine Lim.stepS 9 (fun _ => trivial) rfl (by kernel_rfl) (fun _ _ _ _ h => h) hC10 rfl ?_
      simp only [Act.put, List.setIfInBounds_toArray, List.set_cons_succ, List.set_cons_zero]
      refine Lim.stepS 10 (fun _ => trivial) rfl (by kernel_rfl) (fun _ _ _ _ h => h) hC10 rfl ?_
      simp only [Act.put, List.setIfInBounds_toArray, List.set_cons_succ, List.set_cons_zero]
      refine Lim.stepS 11 (fun _ => trivial) rfl (by kernel_rfl) (fun _ _ _ _ h => h) hC10 rfl ?_
      simp only [Act.put, List.setIfInBounds_toArray, List.set_cons_succ, List.set_cons_zero]
      refine Lim.stepS 12 (fun _ => trivial) rfl (by kernel_rfl) (fun _ _ _ _ h => h) hC10 rfl ?_
      simp only [Act.put, List.setIfInBounds_toArray, List.set_cons_succ, List.set_cons_zero]
      refine Lim.stepS 13 (fun _ => trivial) rfl (by kernel_rfl) (fun _ _ _ _ h => h) hC10 rfl ?_
      simp only [Act.put, List.setIfInBounds_toArray, List.set_cons_succ, List.set_cons_zero]
      refine Lim.stepS 14 (fun _ => trivial) rfl (by kernel_rfl) (fun _ _ _ _ h => h) hC10 rfl ?_
      simp only [Act.put, List.setIfInBounds_toArray, List.set_cons_succ, List.set_cons_zero]
      refine Lim.stepS 15 (fun _ => trivial) rfl (by kernel_rfl) (fun _ _ _ _ h => h) hC10 rfl ?_
      simp only [Act.put, List.setIfInBounds_toArray, List.set_cons_succ, List.set_cons_zero]
      refine Lim.stepR 16 (fun _ => trivial) rfl (by kernel_rfl) (fun _ _ _ _ h => h) hC10 rfl ?_; apply Exists.intro; refine ⟨?_, ?_⟩
      ·rintro w ⟨⟨r1, r2, r3, r4⟩, r5⟩; go_simp; try with_reducible rfl
      simp only [Act.put, List.setIfInBounds_toArray, List.set_cons_succ, List.set_cons_zero]
      refine Lim.stepR 17 (fun _ => trivial) rfl (by kernel_rfl) (fun _ _ _ _ h => h) hC10 rfl ?_; apply Exists.intro; refine ⟨?_, ?_⟩
      ·rintro w ⟨⟨r1, r2, r3, r4⟩, r5⟩; go_simp; try with_reducible rfl
      simp only [Act.put, List.setIfInBounds_toArray, List.set_cons_succ, List.set_cons_zero]
      refine Lim.stepS 18 (fun _ => trivial) rfl (by kernel_rfl) (fun _ _ _ _ h => h) hC10 rfl ?_
      simp only [Act.put, List.setIfInBounds_toArray, List.set_cons_succ, List.set_cons_zero]
      refine Lim.stepS 19 (fun _ => trivial) rfl (by kernel_rfl) (fun _ _ _ _ h => h) hC10 rfl ?_
      simp only [Act.put, List.setIfInBounds_toArray, List.set_cons_succ, List.set_cons_zero]
      refine Lim.stepS 20 (fun _ => trivial) rfl (by kernel_rfl) (fun _ _ _ _ h => h) hC10 rfl ?_
      simp only [Act.put, List.setIfInBounds_toArray, List.set_cons_succ, List.set_cons_zero]
      refine Lim.stepS 21 (fun _ => trivial) rfl (by kernel_rfl) (fun _ _ _ _ h => h) hC10 rfl ?_
      simp only [Act.put, List.setIfInBounds_toArray, List.set_cons_succ, List.set_cons_zero]
      refine Lim.stepS 22 (fun _ => trivial) rfl (by kernel_rfl) (fun _ _ _ _ h => h) hC10 rfl ?_
      simp only [Act.put, List.setIfInBounds_toArray, List.set_cons_succ, List.set_cons_zero]
      refine Lim.stepS 23 (fun _ => trivial) rfl (by kernel_rfl) (fun _ _ _ _ h => h) hC10 rfl ?_
      simp only [Act.put, List.setIfInBounds_toArray, List.set_cons_succ, List.set_cons_zero]
      refine Lim.stepS 24 (fun _ => trivial) rfl (by kernel_rfl) (fun _ _ _ _ h => h) hC10 rfl ?_
      simp only [Act.put, List.setIfInBounds_toArray, List.set_cons_succ, List.set_cons_zero]
      refine Lim.stepS 25 (fun _ => trivial) rfl (by kernel_rfl) (fun _ _ _ _ h => h) hC10 rfl ?_
      simp only [Act.put, List.setIfInBounds_toArray, List.set_cons_succ, List.set_cons_zero]
      refine Lim.stepS 26 (fun _ => trivial) rfl (by kernel_rfl) (fun _ _ _ _ h => h) hC10 rfl ?_
      simp only [Act.put, List.setIfInBounds_toArray, List.set_cons_succ, List.set_cons_zero]
      refine Lim.stepS 27 (fun _ => trivial) rfl (by kernel_rfl) (fun _ _ _ _ h => h) hC10 rfl ?_
      simp only [Act.put, List.setIfInBounds_toArray, List.set_cons_succ, List.set_cons_zero]
      refine Lim.stepS 28 (fun _ => trivial) rfl (by kernel_rfl) (fun _ _ _ _ h => h) hC10 rfl ?_
      simp only [Act.put, List.setIfInBounds_toArray, List.set_cons_succ, List.set_cons_zero]
      refine Lim.stepS 29 (fun _ => trivial) rfl (by kernel_rfl) (fun _ _ _ _ h => h) hC10 rfl ?_
      simp only [Act.put, List.setIfInBounds_toArray, List.set_cons_succ, List.set_cons_zero]
      refine Lim.stepS 30 (fun _ => trivial) rfl (by kernel_rfl) (fun _ _ _ _ h => h) hC10 rfl ?_
      simp only [Act.put, List.setIfInBounds_toArray, List.set_cons_succ, List.set_cons_zero]
      refine Lim.stepR 31 (fun _ => trivial) rfl (by kernel_rfl) (fun _ _ _ _ h => h) hC10 rfl ?_; apply Exists.intro; refine ⟨?_, ?_⟩
      ·rintro w ⟨⟨r1, r2, r3, r4⟩, r5⟩; go_simp; try with_reducible rfl
      simp only [Act.put, List.setIfInBounds_toArray, List.set_cons_succ, List.set_cons_zero]
      refine Lim.stepD (by kernel_rfl) ?_
      clear hC hC9 hC10
      go_wp2_with fail
      go_ret2
      exact HNG.out _ HP10.out.be (fun h => by have := (goodW_iff.1 h).1; rw [← HZ1.out] at this; cases this)
     | true =>
      have hN0 : 0 < xl := by have h := HZ1.out; rw [goesB] at h; rw [HXL.out]; simp at h; omega
      obtain ⟨sa', sc', hse, hso⟩ := HRL.out wb HP1.out.be
      obtain ⟨sb, so, rfl, hsb, hcell⟩ := hso (ints_ne (by rw [List.length_map, ← HXL.out]; exact hN0))
      cases hse
      obtain ⟨oa', oc', hoe, hoo⟩ := HV.out.1.below (HP1.out.be.mono HB0.out.1)
      obtain ⟨ob, oo, rfl, hob, hocell⟩ := hoo (ints_ne HK.out.1.n0)
      cases hoe
      have HRC : Hid (∀ W, Below w.heap.size w W → ∀ j y, L[j]? = some y → W.cell? ⟨sb, so + j, none⟩ = some (.int .i64 (y : Nat))) := Lib.hid fun W hW j y hj => by
       obtain ⟨a1, c1, e1, h1⟩ := HRL.out W hW
       cases e1
       obtain ⟨b1, o1, e2, -, h2⟩ := h1 (ints_ne (by rw [List.length_map, ← HXL.out]; exact hN0))
       cases e2
       exact h2 j _ (by unfold ints; rw [List.getElem?_map, List.getElem?_map, hj]; rfl)
      obtain ⟨l1, hl1⟩ : ∃ l1, l1 = xl - 1 := ⟨_, rfl⟩
      have hl1x : l1 < xl := by omega
      have hw1 : IntKind.i64.wrap ((xl : Int) - 1) = (l1 : Int) := by rw [IntWalk.i64_in _ (by omega)]; omega
      obtain ⟨u0, hu0⟩ : ∃ u, u = L.getD 0 0 := ⟨_, rfl⟩
      obtain ⟨ul, hul⟩ : ∃ u, u = L.getD (L.length - 1) 0 := ⟨_, rfl⟩
      have k0 : L[0]? = some u0 := by rw [hu0, List.getD_eq_getElem?_getD, List.getElem?_eq_getElem (by rw [← HXL.out]; exact hN0)]; rfl
      have kl : L[l1]? = some ul := by rw [hul, hl1, HXL.out, List.getD_eq_getElem?_getD, List.getElem?_eq_getElem (by rw [← HXL.out]; omega)]; rfl
      have hu0n : u0 < n := HLn.out _ (List.mem_of_getElem? k0)
      have huln : ul < n := HLn.out _ (List.mem_of_getElem? kl)
      have y0 := HRC.out wb HP1.out.be 0 u0 k0
      have yl := HRC.out wb HP1.out.be l1 ul kl
      rw [Nat.add_zero] at y0
      obtain ⟨p0, hp0⟩ : ∃ p, p = os.getD u0 0 := ⟨_, rfl⟩
      obtain ⟨pl, hpl⟩ : ∃ p, p = os.getD ul 0 := ⟨_, rfl⟩
      have o0 : wb.cell? ⟨ob, oo + u0, none⟩ = some (.int .i64 p0) := by
       rw [hp0, List.getD_eq_getElem?_getD]
       exact hocell u0 _ (ints_at' os u0 (by rw [← HN.out]; exact hu0n))
      have ol : wb.cell? ⟨ob, oo + ul, none⟩ = some (.int .i64 pl) := by
       rw [hpl, List.getD_eq_getElem?_getD]
       exact hocell ul _ (ints_at' os ul (by rw [← HN.out]; exact huln))
      have HGI : Hid (goodW ⟨wn, os⟩ L = true ↔ p0 = 0 ∧ pl = 1) := Lib.hid (by
       rw [goodW_iff, ← HZ1.out, ← hu0, ← hul, hp0, hpl]
       exact ⟨fun h => h.2, fun h => ⟨rfl, h⟩⟩)
      have hC : (fun W => LdAt W q wn (.slice (some ⟨ob, oo, none⟩) n oc) (.slice ea n ec) (.slice sa n sc) ∧ W.cell? ⟨q11, 0, none⟩ = some (.slice (some ⟨sb, so, none⟩) xl pc) ∧ W.cell? ⟨q11, 1, none⟩ = some (.int .i64 c) ∧ W.cell? ⟨sb, so, none⟩ = some (.int .i64 u0) ∧ W.cell? ⟨sb, so + l1, none⟩ = some (.int .i64 ul) ∧ W.cell? ⟨ob, oo + u0, none⟩ = some (.int .i64 p0) ∧ W.cell? ⟨ob, oo + ul, none⟩ = some (.int .i64 pl)) wb.drew := ⟨HP1.out.ld.on (Below.refl _ wb).drew, x0, x1, y0, yl, o0, ol⟩
      clear hcell hso hocell hoo hu0 hul k0 kl hp0 hpl hob hsb x0 x1 y0 yl o0 ol
      replace hl1 := Lib.hid hl1
      by_cases e0 : p0 = 0
      ·have g2 : (p0 != 0) = false := by simp [e0]
       by_cases e1 : pl = 1
       ·have g3 : (pl != 1) = false := by simp [e1]
        have HG := Lib.hid (HGI.out.2 ⟨e0, e1⟩)
        clear e0 e1
        refine Lim.regC' (fun W => LdAt W q wn (.slice (some ⟨ob, oo, none⟩) n oc) (.slice ea n ec) (.slice sa n sc) ∧ W.cell? ⟨q11, 0, none⟩ = some (.slice (some ⟨sb, so, none⟩) xl pc) ∧ W.cell? ⟨q11, 1, none⟩ = some (.int .i64 c) ∧ W.cell? ⟨sb, so, none⟩ = some (.int .i64 u0) ∧ W.cell? ⟨sb, so + l1, none⟩ = some (.int .i64 ul) ∧ W.cell? ⟨ob, oo + u0, none⟩ = some (.int .i64 p0) ∧ W.cell? ⟨ob, oo + ul, none⟩ = some (.int .i64 pl)) [] #[false, false, false, false, false, false, false, false, false, false, false, false, false, false, false, false, false, false, false, false, false, false, false, false, false, false, false, false, false, false, false, false] (by kernel_rfl) rfl ?_
        refine Lim.stepR 0 (fun _ => trivial) rfl (by kernel_rfl) (fun _ _ _ _ h => h) hC rfl ?_; apply Exists.intro; refine ⟨?_, ?_⟩
        ·rintro w ⟨⟨r1, r2, r3, r4⟩, r5, r6, r7, r8, r9, ra⟩; go_simp; try with_reducible rfl
        simp only [Act.put, List.setIfInBounds_toArray, List.set_cons_succ, List.set_cons_zero]
        refine Lim.stepR 2 (fun _ => trivial) rfl (by kernel_rfl) (fun _ _ _ _ h => h) hC rfl ?_; apply Exists.intro; refine ⟨?_, ?_⟩
        ·rintro w ⟨⟨r1, r2, r3, r4⟩, r5, r6, r7, r8, r9, ra⟩; go_simp; try with_reducible rfl
        simp only [Act.put, List.setIfInBounds_toArray, List.set_cons_succ, List.set_cons_zero]
        refine Lim.stepR 3 (fun _ => trivial) rfl (by kernel_rfl) (fun _ _ _ _ h => h) hC rfl ?_; apply Exists.intro; refine ⟨?_, ?_⟩
        ·rintro w ⟨⟨r1, r2, r3, r4⟩, r5, r6, r7, r8, r9, ra⟩; go_simp; try with_reducible rfl
        simp only [Act.put, List.setIfInBounds_toArray, List.set_cons_succ, List.set_cons_zero]
        refine Lim.stepE 1 (fun _ => trivial) rfl (by kernel_rfl) rfl (fun K hK => ?_)   -- E call
        go_simp
        refine ⟨rfl, (callsIn_wide.2 (plan_any)).mono ?_⟩
        rintro e w9 ⟨rfl, hb9⟩
        have HP9 := Lib.hid (HP1.out.on ((Below.refl _ wb).drew.trans hb9))
        have hC9 : (fun W => LdAt W q wn (.slice (some ⟨ob, oo, none⟩) n oc) (.slice ea n ec) (.slice sa n sc) ∧ W.cell? ⟨q11, 0, none⟩ = some (.slice (some ⟨sb, so, none⟩) xl pc) ∧ W.cell? ⟨q11, 1, none⟩ = some (.int .i64 c) ∧ W.cell? ⟨sb, so, none⟩ = some (.int .i64 u0) ∧ W.cell? ⟨sb, so + l1, none⟩ = some (.int .i64 ul) ∧ W.cell? ⟨ob, oo + u0, none⟩ = some (.int .i64 p0) ∧ W.cell? ⟨ob, oo + ul, none⟩ = some (.int .i64 pl)) w9 := ⟨hC.1.on hb9, hb9.on hC.2.1, hb9.on hC.2.2.1, hb9.on hC.2.2.2.1, hb9.on hC.2.2.2.2.1, hb9.on hC.2.2.2.2.2.1, hb9.on hC.2.2.2.2.2.2⟩
        refine hK _ _ hC9 ?_
        clear hb9
        simp only [Act.put, List.setIfInBounds_toArray, List.set_cons_succ, List.set_cons_zero]
        refine Lim.stepE 4 (fun _ => trivial) rfl (by kernel_rfl) rfl (fun K hK => ?_)   -- E call
        go_simp
        refine ⟨rfl, (callsIn_wide.2 (HGO.out w9 HP9.out.be)).mono ?_⟩
        rintro e w10 ⟨rfl, hb10⟩
        have HP10 := Lib.hid (HP9.out.on hb10)
        have hC10 : (fun W => LdAt W q wn (.slice (some ⟨ob, oo, none⟩) n oc) (.slice ea n ec) (.slice sa n sc) ∧ W.cell? ⟨q11, 0, none⟩ = some (.slice (some ⟨sb, so, none⟩) xl pc) ∧ W.cell? ⟨q11, 1, none⟩ = some (.int .i64 c) ∧ W.cell? ⟨sb, so, none⟩ = some (.int .i64 u0) ∧ W.cell? ⟨sb, so + l1, none⟩ = some (.int .i64 ul) ∧ W.cell? ⟨ob, oo + u0, none⟩ = some (.int .i64 p0) ∧ W.cell? ⟨ob, oo + ul, none⟩ = some (.int .i64 pl)) w10 := ⟨hC9.1.on hb10, hb10.on hC9.2.1, hb10.on hC9.2.2.1, hb10.on hC9.2.2.2.1, hb10.on hC9.2.2.2.2.1, hb10.on hC9.2.2.2.2.2.1, hb10.on hC9.2.2.2.2.2.2⟩
        refine hK _ _ hC10 ?_
        clear hb10
        simp only [Act.put, List.setIfInBounds_toArray, List.set_cons_succ, List.set_cons_zero]
        refine Lim.stepR 5 (fun _ => trivial) rfl (by kernel_rfl) (fun _ _ _ _ h => h) hC10 rfl ?_; apply Exists.intro; refine ⟨?_, ?_⟩
        ·rintro w ⟨⟨r1, r2, r3, r4⟩, r5, r6, r7, r8, r9, ra⟩; go_simp; try with_reducible rfl
        simp only [Act.put, List.setIfInBounds_toArray, List.set_cons_succ, List.set_cons_zero]
        refine Lim.stepR 6 (fun _ => trivial) rfl (by kernel_rfl) (fun _ _ _ _ h => h) hC10 rfl ?_; apply Exists.intro; refine ⟨?_, ?_⟩
        ·rintro w ⟨⟨r1, r2, r3, r4⟩, r5, r6, r7, r8, r9, ra⟩; go_simp; try with_reducible rfl
        simp only [Act.put, List.setIfInBounds_toArray, List.set_cons_succ, List.set_cons_zero]
        refine Lim.stepR 7 (fun _ => trivial) rfl (by kernel_rfl) (fun _ _ _ _ h => h) hC10 rfl ?_; apply Exists.intro; refine ⟨?_, ?_⟩
        ·rintro w ⟨⟨r1, r2, r3, r4⟩, r5, r6, r7, r8, r9, ra⟩; go_simp; try with_reducible rfl
        simp only [Act.put, List.setIfInBounds_toArray, List.set_cons_succ, List.set_cons_zero]
        refine Lim.stepR 8 (fun _ => trivial) rfl (by kernel_rfl) (fun _ _ _ _ h => h) hC10 rfl ?_; apply Exists.intro; refine ⟨?_, ?_⟩
        ·rintro w ⟨⟨r1, r2, r3, r4⟩, r5, r6, r7, r8, r9, ra⟩; go_simp; try with_reducible rfl
        simp only [Act.put, List.setIfInBounds_toArray, List.set_cons_succ, List.set_cons_zero]
        refine Lim.stepR 9 (fun _ => trivial) rfl (by kernel_rfl) (fun _ _ _ _ h => h) hC10 rfl ?_; apply Exists.intro; refine ⟨?_, ?_⟩
        ·rintro w ⟨⟨r1, r2, r3, r4⟩, r5, r6, r7, r8, r9, ra⟩; go_simp; try with_reducible rfl
        simp only [Act.put, List.setIfInBounds_toArray, List.set_cons_succ, List.set_cons_zero]
        refine Lim.stepR 10 (fun _ => trivial) rfl (by kernel_rfl) (fun _ _ _ _ h => h) hC10 rfl ?_; apply Exists.intro; refine ⟨?_, ?_⟩
        ·rintro w ⟨⟨r1, r2, r3, r4⟩, r5, r6, r7, r8, r9, ra⟩; go_simp; try with_reducible rfl
        simp only [Act.put, List.setIfInBounds_toArray, List.set_cons_succ, List.set_cons_zero]
        refine Lim.stepR 11 (fun _ => trivial) rfl (by kernel_rfl) (fun _ _ _ _ h => h) hC10 rfl ?_; apply Exists.intro; refine ⟨?_, ?_⟩
        ·rintro w ⟨⟨r1, r2, r3, r4⟩, r5, r6, r7, r8, r9, ra⟩; go_simp; try with_reducible rfl
        simp only [Act.put, List.setIfInBounds_toArray, List.set_cons_succ, List.set_cons_zero]
        refine Lim.stepR 12 (fun _ => trivial) rfl (by kernel_rfl) (fun _ _ _ _ h => h) hC10 rfl ?_; apply Exists.intro; refine ⟨?_, ?_⟩
        ·rintro w ⟨⟨r1, r2, r3, r4⟩, r5, r6, r7, r8, r9, ra⟩; go_simp; try with_reducible rfl
        simp only [Act.put, List.setIfInBounds_toArray, List.set_cons_succ, List.set_cons_zero]
        refine Lim.stepR 13 (fun _ => trivial) rfl (by kernel_rfl) (fun _ _ _ _ h => h) hC10 rfl ?_; apply Exists.intro; refine ⟨?_, ?_⟩
        ·rintro w ⟨⟨r1, r2, r3, r4⟩, r5, r6, r7, r8, r9, ra⟩; go_simp; try with_reducible rfl
        simp only [Act.put, List.setIfInBounds_toArray, List.set_cons_succ, List.set_cons_zero]
        refine Lim.stepR 14 (fun _ => trivial) rfl (by kernel_rfl) (fun _ _ _ _ h => h) hC10 rfl ?_; apply Exists.intro; refine ⟨?_, ?_⟩
        ·rintro w ⟨⟨r1, r2, r3, r4⟩, r5, r6, r7, r8, r9, ra⟩; go_simp; try with_reducible rfl
        simp only [Act.put, List.setIfInBounds_toArray, List.set_cons_succ, List.set_cons_zero]
        refine Lim.stepR 15 (fun _ => trivial) rfl (by kernel_rfl) (fun _ _ _ _ h => h) hC10 rfl ?_; apply Exists.intro; refine ⟨?_, ?_⟩
        ·rintro w ⟨⟨r1, r2, r3, r4⟩, r5, r6, r7, r8, r9, ra⟩; go_simp; try with_reducible rfl
        simp only [Act.put, List.setIfInBounds_toArray, List.set_cons_succ, List.set_cons_zero]
        refine Lim.stepR 16 (fun _ => trivial) rfl (by kernel_rfl) (fun _ _ _ _ h => h) hC10 rfl ?_; apply Exists.intro; refine ⟨?_, ?_⟩
        ·rintro w ⟨⟨r1, r2, r3, r4⟩, r5, r6, r7, r8, r9, ra⟩; go_simp; try with_reducible rfl
        simp only [Act.put, List.setIfInBounds_toArray, List.set_cons_succ, List.set_cons_zero]
        refine Lim.stepR 17 (fun _ => trivial) rfl (by kernel_rfl) (fun _ _ _ _ h => h) hC10 rfl ?_; apply Exists.intro; refine ⟨?_, ?_⟩
        ·rintro w ⟨⟨r1, r2, r3, r4⟩, r5, r6, r7, r8, r9, ra⟩; go_simp; try with_reducible rfl
        simp only [Act.put, List.setIfInBounds_toArray, List.set_cons_succ, List.set_cons_zero]
        refine Lim.stepR 18 (fun _ => trivial) rfl (by kernel_rfl) (fun _ _ _ _ h => h) hC10 rfl ?_; apply Exists.intro; refine ⟨?_, ?_⟩
        ·rintro w ⟨⟨r1, r2, r3, r4⟩, r5, r6, r7, r8, r9, ra⟩; go_simp; try with_reducible rfl
        simp only [Act.put, List.setIfInBounds_toArray, List.set_cons_succ, List.set_cons_zero]
        refine Lim.stepR 19 (fun _ => trivial) rfl (by kernel_rfl) (fun _ _ _ _ h => h) hC10 rfl ?_; apply Exists.intro; refine ⟨?_, ?_⟩
        ·rintro w ⟨⟨r1, r2, r3, r4⟩, r5, r6, r7, r8, r9, ra⟩; go_simp; try with_reducible rfl
        simp only [Act.put, List.setIfInBounds_toArray, List.set_cons_succ, List.set_cons_zero]
        refine Lim.stepR 20 (fun _ => trivial) rfl (by kernel_rfl) (fun _ _ _ _ h => h) hC10 rfl ?_; apply Exists.intro; refine ⟨?_, ?_⟩
        ·rintro w ⟨⟨r1, r2, r3, r4⟩, r5, r6, r7, r8, r9, ra⟩; go_simp; try with_reducible rfl
        simp only [Act.put, List.setIfInBounds_toArray, List.set_cons_succ, List.set_cons_zero]
        refine Lim.stepR 21 (fun _ => trivial) rfl (by kernel_rfl) (fun _ _ _ _ h => h) hC10 rfl ?_; apply Exists.intro; refine ⟨?_, ?_⟩
        ·rintro w ⟨⟨r1, r2, r3, r4⟩, r5, r6, r7, r8, r9, ra⟩; go_simp; try with_reducible rfl
        simp only [Act.put, List.setIfInBounds_toArray, List.set_cons_succ, List.set_cons_zero]
        refine Lim.stepR 22 (fun _ => trivial) rfl (by kernel_rfl) (fun _ _ _ _ h => h) hC10 rfl ?_; apply Exists.intro; refine ⟨?_, ?_⟩
        ·rintro w ⟨⟨r1, r2, r3, r4⟩, r5, r6, r7, r8, r9, ra⟩; go_simp; try with_reducible rfl
        simp only [Act.put, List.setIfInBounds_toArray, List.set_cons_succ, List.set_cons_zero]
        refine Lim.stepR 23 (fun _ => trivial) rfl (by kernel_rfl) (fun _ _ _ _ h => h) hC10 rfl ?_; apply Exists.intro; refine ⟨?_, ?_⟩
        ·rintro w ⟨⟨r1, r2, r3, r4⟩, r5, r6, r7, r8, r9, ra⟩; go_simp; try with_reducible rfl
        simp only [Act.put, List.setIfInBounds_toArray, List.set_cons_succ, List.set_cons_zero]
        refine Lim.stepR 24 (fun _ => trivial) rfl (by kernel_rfl) (fun _ _ _ _ h => h) hC10 rfl ?_; apply Exists.intro; refine ⟨?_, ?_⟩
        ·rintro w ⟨⟨r1, r2, r3, r4⟩, r5, r6, r7, r8, r9, ra⟩; go_simp; try with_reducible rfl
        simp only [Act.put, List.setIfInBounds_toArray, List.set_cons_succ, List.set_cons_zero]
        refine Lim.stepR 25 (fun _ => trivial) rfl (by kernel_rfl) (fun _ _ _ _ h => h) hC10 rfl ?_; apply Exists.intro; refine ⟨?_, ?_⟩
        ·rintro w ⟨⟨r1, r2, r3, r4⟩, r5, r6, r7, r8, r9, ra⟩; go_simp; try with_reducible rfl
        simp only [Act.put, List.setIfInBounds_toArray, List.set_cons_succ, List.set_cons_zero]
        refine Lim.stepR 26 (fun _ => trivial) rfl (by kernel_rfl) (fun _ _ _ _ h => h) hC10 rfl ?_; apply Exists.intro; refine ⟨?_, ?_⟩
        ·rintro w ⟨⟨r1, r2, r3, r4⟩, r5, r6, r7, r8, r9, ra⟩; go_simp; try with_reducible rfl
        simp only [Act.put, List.setIfInBounds_toArray, List.set_cons_succ, List.set_cons_zero]
        refine Lim.stepR 27 (fun _ => trivial) rfl (by kernel_rfl) (fun _ _ _ _ h => h) hC10 rfl ?_; apply Exists.intro; refine ⟨?_, ?_⟩
        ·rintro w ⟨⟨r1, r2, r3, r4⟩, r5, r6, r7, r8, r9, ra⟩; go_simp; try with_reducible rfl
        simp only [Act.put, List.setIfInBounds_toArray, List.set_cons_succ, List.set_cons_zero]
        refine Lim.stepR 28 (fun _ => trivial) rfl (by kernel_rfl) (fun _ _ _ _ h => h) hC10 rfl ?_; apply Exists.intro; refine ⟨?_, ?_⟩
        ·rintro w ⟨⟨r1, r2, r3, r4⟩, r5, r6, r7, r8, r9, ra⟩; go_simp; try with_reducible rfl
        simp only [Act.put, List.setIfInBounds_toArray, List.set_cons_succ, List.set_cons_zero]
        refine Lim.stepR 29 (fun _ => trivial) rfl (by kernel_rfl) (fun _ _ _ _ h => h) hC10 rfl ?_; apply Exists.intro; refine ⟨?_, ?_⟩
        ·rintro w ⟨⟨r1, r2, r3, r4⟩, r5, r6, r7, r8, r9, ra⟩; go_simp; try with_reducible rfl
        simp only [Act.put, List.setIfInBounds_toArray, List.set_cons_succ, List.set_cons_zero]
        refine Lim.stepR 30 (fun _ => trivial) rfl (by kernel_rfl) (fun _ _ _ _ h => h) hC10 rfl ?_; apply Exists.intro; refine ⟨?_, ?_⟩
        ·rintro w ⟨⟨r1, r2, r3, r4⟩, r5, r6, r7, r8, r9, ra⟩; go_simp; try with_reducible rfl
        simp only [Act.put, List.setIfInBounds_toArray, List.set_cons_succ, List.set_cons_zero]
        refine Lim.stepR 31 (fun _ => trivial) rfl (by kernel_rfl) (fun _ _ _ _ h => h) hC10 rfl ?_; apply Exists.intro; refine ⟨?_, ?_⟩
        ·rintro w ⟨⟨r1, r2, r3, r4⟩, r5, r6, r7, r8, r9, ra⟩; go_simp; try with_reducible rfl
        simp only [Act.put, List.setIfInBounds_toArray, List.set_cons_succ, List.set_cons_zero]
        refine Lim.stepD (by kernel_rfl) ?_
        obtain ⟨-, x0, x1, -⟩ := hC10
        clear hC hC9 g2 g3
        obtain ⟨ℓ, hℓ⟩ : ∃ ℓ, xl = ℓ + 1 := ⟨l1, by have := hl1.out; omega⟩
        subst hℓ
        have hrp := run_pop sb so ℓ pc (by omega) (by omega) w10
        obtain ⟨pa', pk, hpv, hpa⟩ : ∃ pa' pk, popV sb so ℓ pc = .slice pa' ℓ pk ∧ (0 < ℓ → pa' = some ⟨sb, so + 1, none⟩) := by
         unfold popV
         split
         ·exact ⟨_, _, by rw [show ℓ = 0 by omega], fun h => by omega⟩
         ·exact ⟨_, _, rfl, fun _ => rfl⟩
        rw [hpv] at hrp
        have HPA := Lib.hid hpa
        have HI0 : Hid (PrM w q bm wn (.slice (some ⟨ob, oo, none⟩) n oc) (.slice ea n ec) (.slice sa n sc) (lfF hh (fun a b => wuse ((natW ws).take k) a b + c * use2 (L.take (0 + 1)) a b)) w10 ∧ w10.cell? ⟨q11, 0, none⟩ = some (.slice (some ⟨sb, so, none⟩) (ℓ + 1) pc) ∧ w10.cell? ⟨q11, 1, none⟩ = some (.int .i64 c) ∧ ∀ a b, a < b → b < n → wuse ((natW ws).take k) a b + c * use2 (L.take (0 + 1)) a b ≤ (hh a b).getD 0) := Lib.hid (by
         have e : ∀ a b, use2 (L.take (0 + 1)) a b = 0 := fun a b => by
          cases L with
          | nil => rfl
          | cons y L => rfl
         simp only [e, Int.mul_zero, Int.add_zero]
         exact ⟨HP10.out, x0, x1, hI.out.2.2⟩)
        clear hpv hpa x1 hw1 hl1x HGI HNG HGO HP1 HP9 HP10
        go_wp2_with fail
        simp only [Int.natCast_add, Int.natCast_one]
        clear x0
        obtain ⟨wo, rfl⟩ : ∃ wo : World, wo = wr := ⟨_, rfl⟩
        go_loopw [80] (fun v wr => ∃ i : Nat, i ≤ ℓ ∧ v = .int .i64 i ∧ Hid (PrM w q bm wn (.slice (some ⟨ob, oo, none⟩) n oc) (.slice ea n ec) (.slice sa n sc) (lfF hh (fun a b => wuse ((natW ws).take k) a b + c * use2 (L.take (i + 1)) a b)) wr ∧ wr.cell? ⟨q11, 0, none⟩ = some (.slice (some ⟨sb, so, none⟩) (ℓ + 1) pc) ∧ wr.cell? ⟨q11, 1, none⟩ = some (.int .i64 c) ∧ ∀ a b, a < b → b < n → wuse ((natW ws).take k) a b + c * use2 (L.take (i + 1)) a b ≤ (hh a b).getD 0)) (fun v _ => ℓ - (intOf v).toNat)
        case atStart => exact ⟨0, Nat.zero_le _, rfl, HI0⟩
        case round =>
         clear HI0
         obtain ⟨i, hi, rfl, hP⟩ := hrel
         by_cases hil : i < ℓ
         ·have hil64 : (i : Int) < ℓ := by omega
          obtain rfl := HPA.out (by omega)
          have hlL : L.length = ℓ + 1 := HXL.out.symm
          obtain ⟨a, ha⟩ : ∃ a, L[i]? = some a := ⟨_, List.getElem?_eq_getElem (by omega)⟩
          obtain ⟨b, hb⟩ : ∃ b, L[i + 1]? = some b := ⟨_, List.getElem?_eq_getElem (by omega)⟩
          have han := HLn.out a (List.mem_of_getElem? ha)
          have hbn := HLn.out b (List.mem_of_getElem? hb)
          have hab : nb ⟨wn, os⟩ a b := by
           have h := (goodW_iff.1 HG.out).1
           rw [goesB, Bool.and_eq_true, goesTo_iff] at h
           have h := h.1 i (by omega)
           rw [List.getD_eq_getElem?_getD, List.getD_eq_getElem?_getD, ha, hb] at h
           exact h
          have hne : a ≠ b := fun e => by
           rw [e] at hab
           rcases mem_nbr.1 hab with ⟨h1, h2⟩ | ⟨h1, h2⟩ | ⟨h1, h2⟩ | ⟨h1, h2⟩
           ·omega
           ·omega
           ·have := HK.out.1.w0; have e3 : (Mp.mk wn os).wd = wn := rfl; omega
           ·have := HK.out.1.w0; have e3 : (Mp.mk wn os).wd = wn := rfl; omega
          have hso := HSO.out a b han hab
          have ca := HRC.out wr hP.out.1.be i a ha
          have cb := HRC.out wr hP.out.1.be (i + 1) b hb
          rw [show so + (i + 1) = so + 1 + i by omega] at cb
          have c0 := hP.out.2.1
          have c1 := hP.out.2.2.1
          have hi2 : (i : Int) < ℓ + 1 := by omega
          have HAB := Lib.hid (And.intro ha (And.intro hb (And.intro hso (And.intro hne (And.intro han hbn)))))
          clear ha hb hso hab hrp hlL
          obtain ⟨lo, hlo⟩ : ∃ lo, lo = min a b := ⟨_, rfl⟩
          obtain ⟨hi', hhi⟩ : ∃ hi', hi' = max a b := ⟨_, rfl⟩
          have hmn : min (a : Int) (b : Int) = (lo : Int) := by omega
          have hmx : max (a : Int) (b : Int) = (hi' : Int) := by omega
          have hlh : lo < hi' := by omega
          have hhn : hi' < n := by omega
          have HLH : Hid (((lo = a ∧ hi' = b) ∨ (lo = b ∧ hi' = a)) ∧ lo < hi' ∧ hi' < n) := Lib.hid ⟨by omega, hlh, hhn⟩
          have hso : (hh lo hi').isSome = true := by
           rcases HLH.out.1 with ⟨h1, h2⟩ | ⟨h1, h2⟩
           ·rw [h1, h2]; exact HAB.out.2.2.1.1
           ·rw [h1, h2]; exact HAB.out.2.2.1.2
          clear hlo hhi hne
          go_upto_region 20 with (fail)
          have hC : (fun W => W.cell? ⟨q11, 0, none⟩ = some (.slice (some ⟨sb, so, none⟩) (ℓ + 1) pc) ∧ W.cell? ⟨sb, so + i, none⟩ = some (.int .i64 a)) wr.drew := ⟨c0, ca⟩
          refine Lim.regC' (fun W => W.cell? ⟨q11, 0, none⟩ = some (.slice (some ⟨sb, so, none⟩) (ℓ + 1) pc) ∧ W.cell? ⟨sb, so + i, none⟩ = some (.int .i64 a)) [] #[false, false, false, false, false, false, false, false, false, false, false, false, false, false, false, false, false] (by kernel_rfl) rfl ?_
          refine Lim.stepR 0 (fun _ => trivial) rfl (by kernel_rfl) (fun _ _ _ _ h => h) hC rfl ?_; apply Exists.intro; refine ⟨?_, ?_⟩
          ·rintro w ⟨r1, r2⟩; go_simp; try with_reducible rfl
          simp only [Act.put, List.setIfInBounds_toArray, List.set_cons_succ, List.set_cons_zero]
          refine Lim.stepR 1 (fun _ => trivial) rfl (by kernel_rfl) (fun _ _ _ _ h => h) hC rfl ?_; apply Exists.intro; refine ⟨?_, ?_⟩
          ·rintro w ⟨r1, r2⟩; go_simp; try with_reducible rfl
          simp only [Act.put, List.setIfInBounds_toArray, List.set_cons_succ, List.set_cons_zero]
          refine Lim.stepR 2 (fun _ => trivial) rfl (by kernel_rfl) (fun _ _ _ _ h => h) hC rfl ?_; apply Exists.intro; refine ⟨?_, ?_⟩
          ·rintro w ⟨r1, r2⟩; go_simp; try with_reducible rfl
          simp only [Act.put, List.setIfInBounds_toArray, List.set_cons_succ, List.set_cons_zero]
          refine Lim.stepR 3 (fun _ => trivial) rfl (by kernel_rfl) (fun _ _ _ _ h => h) hC rfl ?_; apply Exists.intro; refine ⟨?_, ?_⟩
          ·rintro w ⟨r1, r2⟩; go_simp; try with_reducible rfl
          simp only [Act.put, List.setIfInBounds_toArray, List.set_cons_succ, List.set_cons_zero]
          refine Lim.stepR 4 (fun _ => trivial) rfl (by kernel_rfl) (fun _ _ _ _ h => h) hC rfl ?_; apply Exists.intro; refine ⟨?_, ?_⟩
          ·rintro w ⟨r1, r2⟩; go_simp; try with_reducible rfl
          simp only [Act.put, List.setIfInBounds_toArray, List.set_cons_succ, List.set_cons_zero]
          refine Lim.stepR 5 (fun _ => trivial) rfl (by kernel_rfl) (fun _ _ _ _ h => h) hC rfl ?_; apply Exists.intro; refine ⟨?_, ?_⟩
          ·rintro w ⟨r1, r2⟩; go_simp; try with_reducible rfl
          simp only [Act.put, List.setIfInBounds_toArray, List.set_cons_succ, List.set_cons_zero]
          refine Lim.stepR 6 (fun _ => trivial) rfl (by kernel_rfl) (fun _ _ _ _ h => h) hC rfl ?_; apply Exists.intro; refine ⟨?_, ?_⟩
          ·rintro w ⟨r1, r2⟩; go_simp; try with_reducible rfl
          simp only [Act.put, List.setIfInBounds_toArray, List.set_cons_succ, List.set_cons_zero]
          refine Lim.stepR 7 (fun _ => trivial) rfl (by kernel_rfl) (fun _ _ _ _ h => h) hC rfl ?_; apply Exists.intro; refine ⟨?_, ?_⟩
          ·rintro w ⟨r1, r2⟩; go_simp; try with_reducible rfl
          simp only [Act.put, List.setIfInBounds_toArray, List.set_cons_succ, List.set_cons_zero]
          refine Lim.stepR 8 (fun _ => trivial) rfl (by kernel_rfl) (fun _ _ _ _ h => h) hC rfl ?_; apply Exists.intro; refine ⟨?_, ?_⟩
          ·rintro w ⟨r1, r2⟩; go_simp; try with_reducible rfl
          simp only [Act.put, List.setIfInBounds_toArray, List.set_cons_succ, List.set_cons_zero]
          refine Lim.stepR 9 (fun _ => trivial) rfl (by kernel_rfl) (fun _ _ _ _ h => h) hC rfl ?_; apply Exists.intro; refine ⟨?_, ?_⟩
          ·rintro w ⟨r1, r2⟩; go_simp; try with_reducible rfl
          simp only [Act.put, List.setIfInBounds_toArray, List.set_cons_succ, List.set_cons_zero]
          refine Lim.stepR 10 (fun _ => trivial) rfl (by kernel_rfl) (fun _ _ _ _ h => h) hC rfl ?_; apply Exists.intro; refine ⟨?_, ?_⟩
          ·rintro w ⟨r1, r2⟩; go_simp; try with_reducible rfl
          simp only [Act.put, List.setIfInBounds_toArray, List.set_cons_succ, List.set_cons_zero]
          refine Lim.stepR 11 (fun _ => trivial) rfl (by kernel_rfl) (fun _ _ _ _ h => h) hC rfl ?_; apply Exists.intro; refine ⟨?_, ?_⟩
          ·rintro w ⟨r1, r2⟩; go_simp; try with_reducible rfl
          simp only [Act.put, List.setIfInBounds_toArray, List.set_cons_succ, List.set_cons_zero]
          refine Lim.stepR 12 (fun _ => trivial) rfl (by kernel_rfl) (fun _ _ _ _ h => h) hC rfl ?_; apply Exists.intro; refine ⟨?_, ?_⟩
          ·rintro w ⟨r1, r2⟩; go_simp; try with_reducible rfl
          simp only [Act.put, List.setIfInBounds_toArray, List.set_cons_succ, List.set_cons_zero]
          refine Lim.stepR 13 (fun _ => trivial) rfl (by kernel_rfl) (fun _ _ _ _ h => h) hC rfl ?_; apply Exists.intro; refine ⟨?_, ?_⟩
          ·rintro w ⟨r1, r2⟩; go_simp; try with_reducible rfl
          simp only [Act.put, List.setIfInBounds_toArray, List.set_cons_succ, List.set_cons_zero]
          refine Lim.stepR 14 (fun _ => trivial) rfl (by kernel_rfl) (fun _ _ _ _ h => h) hC rfl ?_; apply Exists.intro; refine ⟨?_, ?_⟩
          ·rintro w ⟨r1, r2⟩; go_simp; try with_reducible rfl
          simp only [Act.put, List.setIfInBounds_toArray, List.set_cons_succ, List.set_cons_zero]
          refine Lim.stepE 15 (fun _ => trivial) rfl (by kernel_rfl) rfl (fun K hK => ?_)   -- E alloc
          go_simp
          have hCa : (fun W => W.cell? ⟨q11, 0, none⟩ = some (.slice (some ⟨sb, so, none⟩) (ℓ + 1) pc) ∧ W.cell? ⟨sb, so + i, none⟩ = some (.int .i64 a)) (wr.drew.alloc (.cells #[.int .i64 0, .int .i64 0] 120)) := ⟨cell_al _ hC.1, cell_al _ hC.2⟩
          refine hK _ _ hCa ?_
          simp only [Act.put, List.setIfInBounds_toArray, List.set_cons_succ, List.set_cons_zero]
          refine Lim.stepE 16 (fun _ => trivial) rfl (by kernel_rfl) rfl (fun K hK => ?_)   -- E store
          go_simp
          have hbM : Below wr.heap.size wr ((wr.alloc (.cells #[.int .i64 lo, .int .i64 hi'] 120)).drew) := ((Below.refl _ wr).alloc (Nat.le_refl _) _).drew
          have hCb : (fun W => W.cell? ⟨q11, 0, none⟩ = some (.slice (some ⟨sb, so, none⟩) (ℓ + 1) pc) ∧ W.cell? ⟨sb, so + i, none⟩ = some (.int .i64 a)) ((wr.alloc (.cells #[.int .i64 lo, .int .i64 hi'] 120)).drew) := ⟨hbM.on c0, hbM.on ca⟩
          refine hK _ _ hCb ?_
          simp only [Act.put, List.setIfInBounds_toArray, List.set_cons_succ, List.set_cons_zero]
          refine Lim.stepD (by kernel_rfl) ?_
          clear hCa hCb hC hmn hmx ca cb c0
          have x0 := hbM.on hP.out.2.1
          have x1 := hbM.on c1
          have d0 : ((wr.alloc (.cells #[.int .i64 lo, .int .i64 hi'] 120)).drew).cell? ⟨wr.heap.size, 0, none⟩ = some (.int .i64 lo) := by show (wr.alloc _).cell? _ = _; simp [go_sem]
          have d1 : ((wr.alloc (.cells #[.int .i64 lo, .int .i64 hi'] 120)).drew).cell? ⟨wr.heap.size, 1, none⟩ = some (.int .i64 hi') := by show (wr.alloc _).cell? _ = _; simp [go_sem]
          have HP12 := Lib.hid (hP.out.1.on hbM)
          have HQC : Hid (bm < wr.heap.size) := Lib.hid hP.out.1.mp.lt
          have HU := Lib.hid hP.out.2.2.2
          clear hbM hP c1
          generalize (wr.alloc (.cells #[.int .i64 lo, .int .i64 hi'] 120)).drew = w12 at HP12 x0 x1 d0 d1 ⊢
          obtain ⟨q14, hq14⟩ : ∃ x, x = wr.heap.size := ⟨_, rfl⟩
          rw [← hq14] at d0 d1 HQC ⊢
          clear hq14
          obtain ⟨U, hU⟩ : ∃ U : Nat → Nat → Int, U = fun a b => wuse ((natW ws).take k) a b + c * use2 (L.take (i + 1)) a b := ⟨_, rfl⟩
          rw [← hU] at HP12
          have hF12 := HP12.out.on (Below.refl _ w12).drew
          have hlk := hF12.mp.lookup (x := lo) (y := hi') (by omega) (by omega)
          obtain ⟨st, hme, hst⟩ := hF12.mp.entry (by unfold maxLen; omega) (x := lo) (y := hi') (by omega) (by omega) (by rw [lfF_some]; exact hso)
          obtain ⟨r0, hr0⟩ : ∃ r0, r0 = (lfF hh U lo hi').getD 0 := ⟨_, rfl⟩
          rw [← hr0] at hlk hme
          have hr0' : r0 = (hh lo hi').getD 0 - U lo hi' := by rw [hr0]; exact lfF_getD U hlh hso
          have hu1 : U lo hi' ≤ (hh lo hi').getD 0 := by rw [hU]; exact HU.out lo hi' hlh hhn
          have hu2 : 0 ≤ U lo hi' := by
           rw [hU]
           have h1 := wuse_nn (W := (natW ws).take k) (fun x hx => by
            obtain ⟨y, hy, rfl⟩ := List.mem_map.1 (List.mem_of_mem_take hx)
            have := Classical.byContradiction fun h => H4.out ⟨_, hy, h⟩
            show 0 ≤ y.2; omega) lo hi'
           have h2 := Int.mul_nonneg (show 0 ≤ c by omega) (use2_nonneg (L.take (i + 1)) lo hi')
           show 0 ≤ wuse ((natW ws).take k) lo hi' + c * use2 (L.take (i + 1)) lo hi'
           omega
          have hu3 := (HRG.out lo hi').2
          obtain ⟨r1, hr1⟩ : ∃ r1, r1 = r0 - c := ⟨_, rfl⟩
          have hw1 : IntKind.i64.wrap (r0 - c) = r1 := by rw [hr1]; exact IntWalk.i64_in _ (by omega)
          obtain ⟨w13, hes, hm3, hg3⟩ := hst r1 (WalkArith.wf_i64 ⟨by omega, by omega⟩)
          have hF13 := hF12.put hg3 hm3
          have hG : (fun a' b' => if a' = lo ∧ b' = hi' then some r1 else lfF hh U a' b') = lfF hh (fun a b => wuse ((natW ws).take k) a b + c * use2 (L.take (i + 1 + 1)) a b) := by
           rw [hr1, hr0, lfF_step (x := a) (y := b) HLH.out.1 hlh hso]
           refine lfF_congr fun a' b' _ => ?_
           rw [hU, use2_step HAB.out.1 HAB.out.2.1, Int.mul_add c (use2 (L.take (i + 1)) a' b'), Int.add_assoc]
          have hlk3 := hF13.mp.lookup (x := lo) (y := hi') (by omega) (by omega)
          rw [if_pos ⟨rfl, rfl⟩, Option.getD_some] at hlk3
          rw [hG] at hF13
          have hs3 := Sep.of_grown hg3
          have hn11 : ¬ some bm = some q11 := fun e => by cases e; have := HQB.out; omega
          have hn14 : ¬ some bm = some q14 := fun e => by cases e; have := HQC.out; omega
          have x0' := hs3.cell (show w12.drew.cell? _ = _ from x0) hn11
          have x1' := hs3.cell (show w12.drew.cell? _ = _ from x1) hn11
          have d0' := hs3.cell (show w12.drew.cell? _ = _ from d0) hn14
          have d1' := hs3.cell (show w12.drew.cell? _ = _ from d1) hn14
          have hC : (fun W => W.cell? ⟨q14, 0, none⟩ = some (.int .i64 lo) ∧ W.cell? ⟨q14, 1, none⟩ = some (.int .i64 hi') ∧ W.cell? ⟨q11, 1, none⟩ = some (.int .i64 c) ∧ (Instr.lookup 106 (.map (some bm)) (.agg #[.int .i64 lo, .int .i64 hi']) false).run Try.prog W = .ok (.int .i64 r0) W ∧ (Instr.mapEntry 106 (.map (some bm)) (.agg #[.int .i64 lo, .int .i64 hi'])).run Try.prog W = .ok (.tuple #[.int .i64 r0, .int .i64 st]) W) w12.drew := ⟨d0, d1, x1, hlk, hme⟩
          have HF13 := Lib.hid hF13
          have HR1 : Hid (r1 = (hh lo hi').getD 0 - (wuse ((natW ws).take k) lo hi' + c * use2 (L.take (i + 1)) lo hi') - c) := Lib.hid (by rw [hr1, hr0', hU])
          clear hF12 hst hr0 hr0' hu1 hu2 hu3 hr1 hm3 hg3 hF13 hG hs3 hn11 hn14 hU HP12 x0 x1 d0 d1 hso hlh hhn han hbn
          go_upto_region 21 with (fail)
          refine Lim.regC' (fun W => W.cell? ⟨q14, 0, none⟩ = some (.int .i64 lo) ∧ W.cell? ⟨q14, 1, none⟩ = some (.int .i64 hi') ∧ W.cell? ⟨q11, 1, none⟩ = some (.int .i64 c) ∧ (Instr.lookup 106 (.map (some bm)) (.agg #[.int .i64 lo, .int .i64 hi']) false).run Try.prog W = .ok (.int .i64 r0) W ∧ (Instr.mapEntry 106 (.map (some bm)) (.agg #[.int .i64 lo, .int .i64 hi'])).run Try.prog W = .ok (.tuple #[.int .i64 r0, .int .i64 st]) W) [8] #[false, false, false, false, false, false, false, false, false] (by kernel_rfl) rfl ?_
          refine Lim.stepR 0 (fun _ => trivial) rfl (by kernel_rfl) (fun _ _ _ _ h => h) hC rfl ?_; apply Exists.intro; refine ⟨?_, ?_⟩
          ·rintro w ⟨r1, r2, r3, r4, r5⟩; go_simp; try with_reducible rfl
          simp only [Act.put, List.setIfInBounds_toArray, List.set_cons_succ, List.set_cons_zero]
          refine Lim.stepR 1 (fun _ => trivial) rfl (by kernel_rfl) (fun _ _ _ _ h => h) hC rfl ?_; apply Exists.intro; refine ⟨?_, ?_⟩
          ·rintro w ⟨r1, r2, r3, r4, r5⟩; go_simp; try with_reducible rfl
          simp only [Act.put, List.setIfInBounds_toArray, List.set_cons_succ, List.set_cons_zero]
          refine Lim.stepR 2 (fun _ => trivial) rfl (by kernel_rfl) (fun _ _ _ _ h => h) hC rfl ?_; apply Exists.intro; refine ⟨?_, ?_⟩
          ·rintro w ⟨r1, r2, r3, r4, r5⟩; go_simp; try with_reducible rfl
          simp only [Act.put, List.setIfInBounds_toArray, List.set_cons_succ, List.set_cons_zero]
          refine Lim.stepR 3 (fun _ => trivial) rfl (by kernel_rfl) (fun _ _ _ _ h => h) hC rfl ?_; apply Exists.intro; refine ⟨?_, ?_⟩
          ·rintro w ⟨r1, r2, r3, r4, r5⟩; go_simp; try with_reducible rfl
          simp only [Act.put, List.setIfInBounds_toArray, List.set_cons_succ, List.set_cons_zero]
          refine Lim.stepR 4 (fun _ => trivial) rfl (by kernel_rfl) (fun _ _ _ _ h => h) hC rfl ?_; apply Exists.intro; refine ⟨?_, ?_⟩
          ·rintro w ⟨r1, r2, r3, r4, r5⟩; go_simp; try with_reducible rfl
          simp only [Act.put, List.setIfInBounds_toArray, List.set_cons_succ, List.set_cons_zero]
          refine Lim.stepR 5 (fun _ => trivial) rfl (by kernel_rfl) (fun _ _ _ _ h => h) hC rfl ?_; apply Exists.intro; refine ⟨?_, ?_⟩
          ·rintro w ⟨r1, r2, r3, r4, r5⟩; go_simp; try with_reducible rfl
          simp only [Act.put, List.setIfInBounds_toArray, List.set_cons_succ, List.set_cons_zero]
          refine Lim.stepR 6 (fun _ => trivial) rfl (by kernel_rfl) (fun _ _ _ _ h => h) hC rfl ?_; apply Exists.intro; refine ⟨?_, ?_⟩
          ·rintro w ⟨r1, r2, r3, r4, r5⟩; go_simp; try with_reducible rfl
          simp only [Act.put, List.setIfInBounds_toArray, List.set_cons_succ, List.set_cons_zero]
          refine Lim.stepR 7 (fun _ => trivial) rfl (by kernel_rfl) (fun _ _ _ _ h => h) hC rfl ?_; apply Exists.intro; refine ⟨?_, ?_⟩
          ·rintro w ⟨r1, r2, r3, r4, r5⟩; go_simp; try with_reducible rfl
          simp only [Act.put, List.setIfInBounds_toArray, List.set_cons_succ, List.set_cons_zero]
          refine Lim.stepX 8 (fun _ => trivial) rfl (by kernel_rfl) rfl rfl (fun K hK => ?_)   -- E entryStore
          go_simp
          refine hK _ _ ?_
          simp only [Act.put, List.setIfInBounds_toArray, List.set_cons_succ, List.set_cons_zero]
          refine Lim.segC (fun _ => True) [] ?_
          refine Lim.stepD (by kernel_rfl) ?_
          clear hC hlk hme hes hw1
          by_cases hneg : r1 < 0
          ·have HNE := Lib.hid hneg
           go_wp2_with fail
           go_ret2
           refine HFIN.out _ _ HF13.out.be (.inr ⟨HE0.out, .inr ⟨fun h => ?_, rfl⟩⟩)
           have h1 := wuse_part_le (W := natW ws) (fun x hx => by
            obtain ⟨y, hy, rfl⟩ := List.mem_map.1 hx
            have := Classical.byContradiction fun h => H4.out ⟨_, hy, h⟩
            show 0 ≤ y.2; omega) HLk.out (i + 1 + 1) lo hi'
           have h2 := h.2 lo hi' HLH.out.2.1 (by show hi' < os.length; rw [← HN.out]; exact HLH.out.2.2)
           have h3 := use2_step (x := lo) (y := hi') HAB.out.1 HAB.out.2.1
           rw [step_one HLH.out.1 HLH.out.2.1] at h3
           have h4 : c * use2 (L.take (i + 1 + 1)) lo hi' = c * use2 (L.take (i + 1)) lo hi' + c := by rw [h3, Int.mul_add, Int.mul_one]
           have h5 := HR1.out
           have h6 := HNE.out
           have h1 : wuse ((natW ws).take k) lo hi' + c * use2 (L.take (i + 1 + 1)) lo hi' ≤ wuse (natW ws) lo hi' := h1
           have h2 : wuse (natW ws) lo hi' ≤ (hh lo hi').getD 0 := h2
           omega
          ·have HNE := Lib.hid hneg
           go_wp2_with fail
           go_roundw
           case rel =>
            refine ⟨i + 1, by omega, by go_num, Lib.hid ⟨HF13.out, x0', x1', fun a' b' hab' hbn' => ?_⟩⟩
            have h3 := use2_step (x := a') (y := b') HAB.out.1 HAB.out.2.1
            by_cases e : a' = lo ∧ b' = hi'
            ·obtain ⟨rfl, rfl⟩ := e
             rw [step_one HLH.out.1 HLH.out.2.1] at h3
             rw [h3, Int.mul_add, Int.mul_one]
             have := HR1.out
             have := HNE.out
             omega
            ·rw [step_zero HLH.out.1 hab' e HLH.out.2.1, Int.add_zero] at h3
             rw [h3]
             exact HU.out a' b' hab' hbn'
           case measure => simp [intOf]; omega
         ·have hil' : ¬ (i : Int) < ℓ := by omega
          obtain rfl : i = ℓ := by omega
          have c1 := hP.out.2.2.1
          have htk : (natW ws).take (k + 1) = (natW ws).take k ++ [(L, c)] := by rw [List.take_add_one, HLk.out]; rfl
          have htL : L.take (i + 1) = L := List.take_of_length_le (by rw [← HXL.out]; exact Nat.le_refl _)
          have hwk : wtot ((natW ws).take (k + 1)) = wtot ((natW ws).take k) + c := by rw [htk]; simp [wtot]
          have hwr := wtot_range (W := (natW ws).take k) (fun x hx => by
           obtain ⟨y, hy, rfl⟩ := List.mem_map.1 (List.mem_of_mem_take hx)
           have := Classical.byContradiction fun h => H4.out ⟨_, hy, h⟩
           show 0 ≤ y.2 ∧ y.2 ≤ 1000; omega)
          have hwl : ((natW ws).take k).length ≤ 100000 := by rw [List.length_take]; have := HWL.out.1; simp [natW]; omega
          have hw2 : IntKind.i64.wrap (wtot ((natW ws).take k) + c) = wtot ((natW ws).take (k + 1)) := by rw [hwk]; exact IntWalk.i64_in _ (by omega)
          have HPE : Hid (PrM w q bm wn (.slice (some ⟨ob, oo, none⟩) n oc) (.slice ea n ec) (.slice sa n sc) (lfF hh (wuse ((natW ws).take (k + 1)))) wr ∧ (∀ x ∈ (natW ws).take (k + 1), goodW ⟨wn, os⟩ x.1 = true) ∧ ∀ a b, a < b → b < n → wuse ((natW ws).take (k + 1)) a b ≤ (hh a b).getD 0) := Lib.hid (by
           have h := hP.out
           rw [htL] at h
           have e : wuse ((natW ws).take (k + 1)) = fun a b => wuse ((natW ws).take k) a b + c * use2 L a b := by
            funext a b; rw [htk, wuse_snoc]
           rw [e]
           refine ⟨h.1, fun x hx => ?_, h.2.2.2⟩
           rw [htk] at hx
           rcases List.mem_append.1 hx with hx | hx
           ·exact hI.out.2.1 x hx
           ·rw [List.mem_singleton.1 hx]; exact HG.out)
          clear htk htL hwk hwr hwl hP hrp
          go_wp2_with fail
          go_roundw
          case rel => exact ⟨k + 1, by omega, by go_num, rfl, HPE⟩
          case measure => simp [intOf]; omega
       ·have g3 : (pl != 1) = true := by simpa using e1
        have HE1 := Lib.hid e1
        clear e0 e1
        refine Lim.regC' (fun W => LdAt W q wn (.slice (some ⟨ob, oo, none⟩) n oc) (.slice ea n ec) (.slice sa n sc) ∧ W.cell? ⟨q11, 0, none⟩ = some (.slice (some ⟨sb, so, none⟩) xl pc) ∧ W.cell? ⟨q11, 1, none⟩ = some (.int .i64 c) ∧ W.cell? ⟨sb, so, none⟩ = some (.int .i64 u0) ∧ W.cell? ⟨sb, so + l1, none⟩ = some (.int .i64 ul) ∧ W.cell? ⟨ob, oo + u0, none⟩ = some (.int .i64 p0) ∧ W.cell? ⟨ob, oo + ul, none⟩ = some (.int .i64 pl)) [] #[false, false, false, false, false, false, false, false, false, false, false, false, false, false, false, false, false, false, false, false, false, false, false, false, false, false, false, false, false, false, false, false] (by kernel_rfl) rfl ?_
        refine Lim.stepR 0 (fun _ => trivial) rfl (by kernel_rfl) (fun _ _ _ _ h => h) hC rfl ?_; apply Exists.intro; refine ⟨?_, ?_⟩
        ·rintro w ⟨⟨r1, r2, r3, r4⟩, r5, r6, r7, r8, r9, ra⟩; go_simp; try with_reducible rfl
        simp only [Act.put, List.setIfInBounds_toArray, List.set_cons_succ, List.set_cons_zero]
        refine Lim.stepR 2 (fun _ => trivial) rfl (by kernel_rfl) (fun _ _ _ _ h => h) hC rfl ?_; apply Exists.intro; refine ⟨?_, ?_⟩
        ·rintro w ⟨⟨r1, r2, r3, r4⟩, r5, r6, r7, r8, r9, ra⟩; go_simp; try with_reducible rfl
        simp only [Act.put, List.setIfInBounds_toArray, List.set_cons_succ, List.set_cons_zero]
        refine Lim.stepR 3 (fun _ => trivial) rfl (by kernel_rfl) (fun _ _ _ _ h => h) hC rfl ?_; apply Exists.intro; refine ⟨?_, ?_⟩
        ·rintro w ⟨⟨r1, r2, r3, r4⟩, r5, r6, r7, r8, r9, ra⟩; go_simp; try with_reducible rfl
        simp only [Act.put, List.setIfInBounds_toArray, List.set_cons_succ, List.set_cons_zero]
        refine Lim.stepE 1 (fun _ => trivial) rfl (by kernel_rfl) rfl (fun K hK => ?_)   -- E call
        go_simp
        refine ⟨rfl, (callsIn_wide.2 (plan_any)).mono ?_⟩
        rintro e w9 ⟨rfl, hb9⟩
        have HP9 := Lib.hid (HP1.out.on ((Below.refl _ wb).drew.trans hb9))
        have hC9 : (fun W => LdAt W q wn (.slice (some ⟨ob, oo, none⟩) n oc) (.slice ea n ec) (.slice sa n sc) ∧ W.cell? ⟨q11, 0, none⟩ = some (.slice (some ⟨sb, so, none⟩) xl pc) ∧ W.cell? ⟨q11, 1, none⟩ = some (.int .i64 c) ∧ W.cell? ⟨sb, so, none⟩ = some (.int .i64 u0) ∧ W.cell? ⟨sb, so + l1, none⟩ = some (.int .i64 ul) ∧ W.cell? ⟨ob, oo + u0, none⟩ = some (.int .i64 p0) ∧ W.cell? ⟨ob, oo + ul, none⟩ = some (.int .i64 pl)) w9 := ⟨hC.1.on hb9, hb9.on hC.2.1, hb9.on hC.2.2.1, hb9.on hC.2.2.2.1, hb9.on hC.2.2.2.2.1, hb9.on hC.2.2.2.2.2.1, hb9.on hC.2.2.2.2.2.2⟩
        refine hK _ _ hC9 ?_
        clear hb9
        simp only [Act.put, List.setIfInBounds_toArray, List.set_cons_succ, List.set_cons_zero]
        refine Lim.stepE 4 (fun _ => trivial) rfl (by kernel_rfl) rfl (fun K hK => ?_)   -- E call
        go_simp
        refine ⟨rfl, (callsIn_wide.2 (HGO.out w9 HP9.out.be)).mono ?_⟩
        rintro e w10 ⟨rfl, hb10⟩
        have HP10 := Lib.hid (HP9.out.on hb10)
        have hC10 : (fun W => LdAt W q wn (.slice (some ⟨ob, oo, none⟩) n oc) (.slice ea n ec) (.slice sa n sc) ∧ W.cell? ⟨q11, 0, none⟩ = some (.slice (some ⟨sb, so, none⟩) xl pc) ∧ W.cell? ⟨q11, 1, none⟩ = some (.int .i64 c) ∧ W.cell? ⟨sb, so, none⟩ = some (.int .i64 u0) ∧ W.cell? ⟨sb, so + l1, none⟩ = some (.int .i64 ul) ∧ W.cell? ⟨ob, oo + u0, none⟩ = some (.int .i64 p0) ∧ W.cell? ⟨ob, oo + ul, none⟩ = some (.int .i64 pl)) w10 := ⟨hC9.1.on hb10, hb10.on hC9.2.1, hb10.on hC9.2.2.1, hb10.on hC9.2.2.2.1, hb10.on hC9.2.2.2.2.1, hb10.on hC9.2.2.2.2.2.1, hb10.on hC9.2.2.2.2.2.2⟩
        refine hK _ _ hC10 ?_
        clear hb10
        simp only [Act.put, List.setIfInBounds_toArray, List.set_cons_succ, List.set_cons_zero]
        refine Lim.stepR 5 (fun _ => trivial) rfl (by kernel_rfl) (fun _ _ _ _ h => h) hC10 rfl ?_; apply Exists.intro; refine ⟨?_, ?_⟩
        ·rintro w ⟨⟨r1, r2, r3, r4⟩, r5, r6, r7, r8, r9, ra⟩; go_simp; try with_reducible rfl
        simp only [Act.put, List.setIfInBounds_toArray, List.set_cons_succ, List.set_cons_zero]
        refine Lim.stepR 6 (fun _ => trivial) rfl (by kernel_rfl) (fun _ _ _ _ h => h) hC10 rfl ?_; apply Exists.intro; refine ⟨?_, ?_⟩
        ·rintro w ⟨⟨r1, r2, r3, r4⟩, r5, r6, r7, r8, r9, ra⟩; go_simp; try with_reducible rfl
        simp only [Act.put, List.setIfInBounds_toArray, List.set_cons_succ, List.set_cons_zero]
        refine Lim.stepR 7 (fun _ => trivial) rfl (by kernel_rfl) (fun _ _ _ _ h => h) hC10 rfl ?_; apply Exists.intro; refine ⟨?_, ?_⟩
        ·rintro w ⟨⟨r1, r2, r3, r4⟩, r5, r6, r7, r8, r9, ra⟩; go_simp; try with_reducible rfl
        simp only [Act.put, List.setIfInBounds_toArray, List.set_cons_succ, List.set_cons_zero]
        refine Lim.stepR 8 (fun _ => trivial) rfl (by kernel_rfl) (fun _ _ _ _ h => h) hC10 rfl ?_; apply Exists.intro; refine ⟨?_, ?_⟩
        ·rintro w ⟨⟨r1, r2, r3, r4⟩, r5, r6, r7, r8, r9, ra⟩; go_simp; try with_reducible rfl
        simp only [Act.put, List.setIfInBounds_toArray, List.set_cons_succ, List.set_cons_zero]
        refine Lim.stepR 9 (fun _ => trivial) rfl (by kernel_rfl) (fun _ _ _ _ h => h) hC10 rfl ?_; apply Exists.intro; refine ⟨?_, ?_⟩
        ·rintro w ⟨⟨r1, r2, r3, r4⟩, r5, r6, r7, r8, r9, ra⟩; go_simp; try with_reducible rfl
        simp only [Act.put, List.setIfInBounds_toArray, List.set_cons_succ, List.set_cons_zero]
        refine Lim.stepR 10 (fun _ => trivial) rfl (by kernel_rfl) (fun _ _ _ _ h => h) hC10 rfl ?_; apply Exists.intro; refine ⟨?_, ?_⟩
        ·rintro w ⟨⟨r1, r2, r3, r4⟩, r5, r6, r7, r8, r9, ra⟩; go_simp; try with_reducible rfl
        simp only [Act.put, List.setIfInBounds_toArray, List.set_cons_succ, List.set_cons_zero]
        refine Lim.stepR 11 (fun _ => trivial) rfl (by kernel_rfl) (fun _ _ _ _ h => h) hC10 rfl ?_; apply Exists.intro; refine ⟨?_, ?_⟩
        ·rintro w ⟨⟨r1, r2, r3, r4⟩, r5, r6, r7, r8, r9, ra⟩; go_simp; try with_reducible rfl
        simp only [Act.put, List.setIfInBounds_toArray, List.set_cons_succ, List.set_cons_zero]
        refine Lim.stepR 12 (fun _ => trivial) rfl (by kernel_rfl) (fun _ _ _ _ h => h) hC10 rfl ?_; apply Exists.intro; refine ⟨?_, ?_⟩
        ·rintro w ⟨⟨r1, r2, r3, r4⟩, r5, r6, r7, r8, r9, ra⟩; go_simp; try with_reducible rfl
        simp only [Act.put, List.setIfInBounds_toArray, List.set_cons_succ, List.set_cons_zero]
        refine Lim.stepR 13 (fun _ => trivial) rfl (by kernel_rfl) (fun _ _ _ _ h => h) hC10 rfl ?_; apply Exists.intro; refine ⟨?_, ?_⟩
        ·rintro w ⟨⟨r1, r2, r3, r4⟩, r5, r6, r7, r8, r9, ra⟩; go_simp; try with_reducible rfl
        simp only [Act.put, List.setIfInBounds_toArray, List.set_cons_succ, List.set_cons_zero]
        refine Lim.stepR 14 (fun _ => trivial) rfl (by kernel_rfl) (fun _ _ _ _ h => h) hC10 rfl ?_; apply Exists.intro; refine ⟨?_, ?_⟩
        ·rintro w ⟨⟨r1, r2, r3, r4⟩, r5, r6, r7, r8, r9, ra⟩; go_simp; try with_reducible rfl
        simp only [Act.put, List.setIfInBounds_toArray, List.set_cons_succ, List.set_cons_zero]
        refine Lim.stepR 15 (fun _ => trivial) rfl (by kernel_rfl) (fun _ _ _ _ h => h) hC10 rfl ?_; apply Exists.intro; refine ⟨?_, ?_⟩
        ·rintro w ⟨⟨r1, r2, r3, r4⟩, r5, r6, r7, r8, r9, ra⟩; go_simp; try with_reducible rfl
        simp only [Act.put, List.setIfInBounds_toArray, List.set_cons_succ, List.set_cons_zero]
        refine Lim.stepR 16 (fun _ => trivial) rfl (by kernel_rfl) (fun _ _ _ _ h => h) hC10 rfl ?_; apply Exists.intro; refine ⟨?_, ?_⟩
        ·rintro w ⟨⟨r1, r2, r3, r4⟩, r5, r6, r7, r8, r9, ra⟩; go_simp; try with_reducible rfl
        simp only [Act.put, List.setIfInBounds_toArray, List.set_cons_succ, List.set_cons_zero]
        refine Lim.stepR 17 (fun _ => trivial) rfl (by kernel_rfl) (fun _ _ _ _ h => h) hC10 rfl ?_; apply Exists.intro; refine ⟨?_, ?_⟩
        ·rintro w ⟨⟨r1, r2, r3, r4⟩, r5, r6, r7, r8, r9, ra⟩; go_simp; try with_reducible rfl
        simp only [Act.put, List.setIfInBounds_toArray, List.set_cons_succ, List.set_cons_zero]
        refine Lim.stepR 18 (fun _ => trivial) rfl (by kernel_rfl) (fun _ _ _ _ h => h) hC10 rfl ?_; apply Exists.intro; refine ⟨?_, ?_⟩
        ·rintro w ⟨⟨r1, r2, r3, r4⟩, r5, r6, r7, r8, r9, ra⟩; go_simp; try with_reducible rfl
        simp only [Act.put, List.setIfInBounds_toArray, List.set_cons_succ, List.set_cons_zero]
        refine Lim.stepR 19 (fun _ => trivial) rfl (by kernel_rfl) (fun _ _ _ _ h => h) hC10 rfl ?_; apply Exists.intro; refine ⟨?_, ?_⟩
        ·rintro w ⟨⟨r1, r2, r3, r4⟩, r5, r6, r7, r8, r9, ra⟩; go_simp; try with_reducible rfl
        simp only [Act.put, List.setIfInBounds_toArray, List.set_cons_succ, List.set_cons_zero]
        refine Lim.stepR 20 (fun _ => trivial) rfl (by kernel_rfl) (fun _ _ _ _ h => h) hC10 rfl ?_; apply Exists.intro; refine ⟨?_, ?_⟩
        ·rintro w ⟨⟨r1, r2, r3, r4⟩, r5, r6, r7, r8, r9, ra⟩; go_simp; try with_reducible rfl
        simp only [Act.put, List.setIfInBounds_toArray, List.set_cons_succ, List.set_cons_zero]
        refine Lim.stepR 21 (fun _ => trivial) rfl (by kernel_rfl) (fun _ _ _ _ h => h) hC10 rfl ?_; apply Exists.intro; refine ⟨?_, ?_⟩
        ·rintro w ⟨⟨r1, r2, r3, r4⟩, r5, r6, r7, r8, r9, ra⟩; go_simp; try with_reducible rfl
        simp only [Act.put, List.setIfInBounds_toArray, List.set_cons_succ, List.set_cons_zero]
        refine Lim.stepR 22 (fun _ => trivial) rfl (by kernel_rfl) (fun _ _ _ _ h => h) hC10 rfl ?_; apply Exists.intro; refine ⟨?_, ?_⟩
        ·rintro w ⟨⟨r1, r2, r3, r4⟩, r5, r6, r7, r8, r9, ra⟩; go_simp; try with_reducible rfl
        simp only [Act.put, List.setIfInBounds_toArray, List.set_cons_succ, List.set_cons_zero]
        refine Lim.stepR 23 (fun _ => trivial) rfl (by kernel_rfl) (fun _ _ _ _ h => h) hC10 rfl ?_; apply Exists.intro; refine ⟨?_, ?_⟩
        ·rintro w ⟨⟨r1, r2, r3, r4⟩, r5, r6, r7, r8, r9, ra⟩; go_simp; try with_reducible rfl
        simp only [Act.put, List.setIfInBounds_toArray, List.set_cons_succ, List.set_cons_zero]
        refine Lim.stepR 24 (fun _ => trivial) rfl (by kernel_rfl) (fun _ _ _ _ h => h) hC10 rfl ?_; apply Exists.intro; refine ⟨?_, ?_⟩
        ·rintro w ⟨⟨r1, r2, r3, r4⟩, r5, r6, r7, r8, r9, ra⟩; go_simp; try with_reducible rfl
        simp only [Act.put, List.setIfInBounds_toArray, List.set_cons_succ, List.set_cons_zero]
        refine Lim.stepR 25 (fun _ => trivial) rfl (by kernel_rfl) (fun _ _ _ _ h => h) hC10 rfl ?_; apply Exists.intro; refine ⟨?_, ?_⟩
        ·rintro w ⟨⟨r1, r2, r3, r4⟩, r5, r6, r7, r8, r9, ra⟩; go_simp; try with_reducible rfl
        simp only [Act.put, List.setIfInBounds_toArray, List.set_cons_succ, List.set_cons_zero]
        refine Lim.stepR 26 (fun _ => trivial) rfl (by kernel_rfl) (fun _ _ _ _ h => h) hC10 rfl ?_; apply Exists.intro; refine ⟨?_, ?_⟩
        ·rintro w ⟨⟨r1, r2, r3, r4⟩, r5, r6, r7, r8, r9, ra⟩; go_simp; try with_reducible rfl
        simp only [Act.put, List.setIfInBounds_toArray, List.set_cons_succ, List.set_cons_zero]
        refine Lim.stepR 27 (fun _ => trivial) rfl (by kernel_rfl) (fun _ _ _ _ h => h) hC10 rfl ?_; apply Exists.intro; refine ⟨?_, ?_⟩
        ·rintro w ⟨⟨r1, r2, r3, r4⟩, r5, r6, r7, r8, r9, ra⟩; go_simp; try with_reducible rfl
        simp only [Act.put, List.setIfInBounds_toArray, List.set_cons_succ, List.set_cons_zero]
        refine Lim.stepR 28 (fun _ => trivial) rfl (by kernel_rfl) (fun _ _ _ _ h => h) hC10 rfl ?_; apply Exists.intro; refine ⟨?_, ?_⟩
        ·rintro w ⟨⟨r1, r2, r3, r4⟩, r5, r6, r7, r8, r9, ra⟩; go_simp; try with_reducible rfl
        simp only [Act.put, List.setIfInBounds_toArray, List.set_cons_succ, List.set_cons_zero]
        refine Lim.stepR 29 (fun _ => trivial) rfl (by kernel_rfl) (fun _ _ _ _ h => h) hC10 rfl ?_; apply Exists.intro; refine ⟨?_, ?_⟩
        ·rintro w ⟨⟨r1, r2, r3, r4⟩, r5, r6, r7, r8, r9, ra⟩; go_simp; try with_reducible rfl
        simp only [Act.put, List.setIfInBounds_toArray, List.set_cons_succ, List.set_cons_zero]
        refine Lim.stepR 30 (fun _ => trivial) rfl (by kernel_rfl) (fun _ _ _ _ h => h) hC10 rfl ?_; apply Exists.intro; refine ⟨?_, ?_⟩
        ·rintro w ⟨⟨r1, r2, r3, r4⟩, r5, r6, r7, r8, r9, ra⟩; go_simp; try with_reducible rfl
        simp only [Act.put, List.setIfInBounds_toArray, List.set_cons_succ, List.set_cons_zero]
        refine Lim.stepR 31 (fun _ => trivial) rfl (by kernel_rfl) (fun _ _ _ _ h => h) hC10 rfl ?_; apply Exists.intro; refine ⟨?_, ?_⟩
        ·rintro w ⟨⟨r1, r2, r3, r4⟩, r5, r6, r7, r8, r9, ra⟩; go_simp; try with_reducible rfl
        simp only [Act.put, List.setIfInBounds_toArray, List.set_cons_succ, List.set_cons_zero]
        refine Lim.stepD (by kernel_rfl) ?_
        clear hC hC9 hC10
        go_wp2_with fail
        go_ret2
        exact HNG.out _ HP10.out.be (fun h => HE1.out (HGI.out.1 h).2)
      ·have g2 : (p0 != 0) = true := by simpa using e0
       have HE1 := Lib.hid e0
       clear e0
       refine Lim.regC' (fun W => LdAt W q wn (.slice (some ⟨ob, oo, none⟩) n oc) (.slice ea n ec) (.slice sa n sc) ∧ W.cell? ⟨q11, 0, none⟩ = some (.slice (some ⟨sb, so, none⟩) xl pc) ∧ W.cell? ⟨q11, 1, none⟩ = some (.int .i64 c) ∧ W.cell? ⟨sb, so, none⟩ = some (.int .i64 u0) ∧ W.cell? ⟨sb, so + l1, none⟩ = some (.int .i64 ul) ∧ W.cell? ⟨ob, oo + u0, none⟩ = some (.int .i64 p0) ∧ W.cell? ⟨ob, oo + ul, none⟩ = some (.int .i64 pl)) [] #[false, false, false, false, false, false, false, false, false, false, false, false, false, false, false, false, false, false, false, false, false, false, false, false, false, false, false, false, false, false, false, false] (by kernel_rfl) rfl ?_
       refine Lim.stepR 0 (fun _ => trivial) rfl (by kernel_rfl) (fun _ _ _ _ h => h) hC rfl ?_; apply Exists.intro; refine ⟨?_, ?_⟩
       ·rintro w ⟨⟨r1, r2, r3, r4⟩, r5, r6, r7, r8, r9, ra⟩; go_simp; try with_reducible rfl
       simp only [Act.put, List.setIfInBounds_toArray, List.set_cons_succ, List.set_cons_zero]
       refine Lim.stepR 2 (fun _ => trivial) rfl (by kernel_rfl) (fun _ _ _ _ h => h) hC rfl ?_; apply Exists.intro; refine ⟨?_, ?_⟩
       ·rintro w ⟨⟨r1, r2, r3, r4⟩, r5, r6, r7, r8, r9, ra⟩; go_simp; try with_reducible rfl
       simp only [Act.put, List.setIfInBounds_toArray, List.set_cons_succ, List.set_cons_zero]
       refine Lim.stepR 3 (fun _ => trivial) rfl (by kernel_rfl) (fun _ _ _ _ h => h) hC rfl ?_; apply Exists.intro; refine ⟨?_, ?_⟩
       ·rintro w ⟨⟨r1, r2, r3, r4⟩, r5, r6, r7, r8, r9, ra⟩; go_simp; try with_reducible rfl
       simp only [Act.put, List.setIfInBounds_toArray, List.set_cons_succ, List.set_cons_zero]
       refine Lim.stepE 1 (fun _ => trivial) rfl (by kernel_rfl) rfl (fun K hK => ?_)   -- E call
       go_simp
       refine ⟨rfl, (callsIn_wide.2 (plan_any)).mono ?_⟩
       rintro e w9 ⟨rfl, hb9⟩
       have HP9 := Lib.hid (HP1.out.on ((Below.refl _ wb).drew.trans hb9))
       have hC9 : (fun W => LdAt W q wn (.slice (some ⟨ob, oo, none⟩) n oc) (.slice ea n ec) (.slice sa n sc) ∧ W.cell? ⟨q11, 0, none⟩ = some (.slice (some ⟨sb, so, none⟩) xl pc) ∧ W.cell? ⟨q11, 1, none⟩ = some (.int .i64 c) ∧ W.cell? ⟨sb, so, none⟩ = some (.int .i64 u0) ∧ W.cell? ⟨sb, so + l1, none⟩ = some (.int .i64 ul) ∧ W.cell? ⟨ob, oo + u0, none⟩ = some (.int .i64 p0) ∧ W.cell? ⟨ob, oo + ul, none⟩ = some (.int .i64 pl)) w9 := ⟨hC.1.on hb9, hb9.on hC.2.1, hb9.on hC.2.2.1, hb9.on hC.2.2.2.1, hb9.on hC.2.2.2.2.1, hb9.on hC.2.2.2.2.2.1, hb9.on hC.2.2.2.2.2.2⟩
       refine hK _ _ hC9 ?_
       clear hb9
       simp only [Act.put, List.setIfInBounds_toArray, List.set_cons_succ, List.set_cons_zero]
       refine Lim.stepE 4 (fun _ => trivial) rfl (by kernel_rfl) rfl (fun K hK => ?_)   -- E call
       go_simp
       refine ⟨rfl, (callsIn_wide.2 (HGO.out w9 HP9.out.be)).mono ?_⟩
       rintro e w10 ⟨rfl, hb10⟩
       have HP10 := Lib.hid (HP9.out.on hb10)
       have hC10 : (fun W => LdAt W q wn (.slice (some ⟨ob, oo, none⟩) n oc) (.slice ea n ec) (.slice sa n sc) ∧ W.cell? ⟨q11, 0, none⟩ = some (.slice (some ⟨sb, so, none⟩) xl pc) ∧ W.cell? ⟨q11, 1, none⟩ = some (.int .i64 c) ∧ W.cell? ⟨sb, so, none⟩ = some (.int .i64 u0) ∧ W.cell? ⟨sb, so + l1, none⟩ = some (.int .i64 ul) ∧ W.cell? ⟨ob, oo + u0, none⟩ = some (.int .i64 p0) ∧ W.cell? ⟨ob, oo + ul, none⟩ = some (.int .i64 pl)) w10 := ⟨hC9.1.on hb10, hb10.on hC9.2.1, hb10.on hC9.2.2.1, hb10.on hC9.2.2.2.1, hb10.on hC9.2.2.2.2.1, hb10.on hC9.2.2.2.2.2.1, hb10.on hC9.2.2.2.2.2.2⟩
       refine hK _ _ hC10 ?_
       clear hb10
       simp only [Act.put, List.setIfInBounds_toArray, List.set_cons_succ, List.set_cons_zero]
       refine Lim.stepR 5 (fun _ => trivial) rfl (by kernel_rfl) (fun _ _ _ _ h => h) hC10 rfl ?_; apply Exists.intro; refine ⟨?_, ?_⟩
       ·rintro w ⟨⟨r1, r2, r3, r4⟩, r5, r6, r7, r8, r9, ra⟩; go_simp; try with_reducible rfl
       simp only [Act.put, List.setIfInBounds_toArray, List.set_cons_succ, List.set_cons_zero]
       refine Lim.stepR 6 (fun _ => trivial) rfl (by kernel_rfl) (fun _ _ _ _ h => h) hC10 rfl ?_; apply Exists.intro; refine ⟨?_, ?_⟩
       ·rintro w ⟨⟨r1, r2, r3, r4⟩, r5, r6, r7, r8, r9, ra⟩; go_simp; try with_reducible rfl
       simp only [Act.put, List.setIfInBounds_toArray, List.set_cons_succ, List.set_cons_zero]
       refine Lim.stepR 7 (fun _ => trivial) rfl (by kernel_rfl) (fun _ _ _ _ h => h) hC10 rfl ?_; apply Exists.intro; refine ⟨?_, ?_⟩
       ·rintro w ⟨⟨r1, r2, r3, r4⟩, r5, r6, r7, r8, r9, ra⟩; go_simp; try with_reducible rfl
       simp only [Act.put, List.setIfInBounds_toArray, List.set_cons_succ, List.set_cons_zero]
       refine Lim.stepR 8 (fun _ => trivial) rfl (by kernel_rfl) (fun _ _ _ _ h => h) hC10 rfl ?_; apply Exists.intro; refine ⟨?_, ?_⟩
       ·rintro w ⟨⟨r1, r2, r3, r4⟩, r5, r6, r7, r8, r9, ra⟩; go_simp; try with_reducible rfl
       simp only [Act.put, List.setIfInBounds_toArray, List.set_cons_succ, List.set_cons_zero]
       refine Lim.stepR 9 (fun _ => trivial) rfl (by kernel_rfl) (fun _ _ _ _ h => h) hC10 rfl ?_; apply Exists.intro; refine ⟨?_, ?_⟩
       ·rintro w ⟨⟨r1, r2, r3, r4⟩, r5, r6, r7, r8, r9, ra⟩; go_simp; try with_reducible rfl
       simp only [Act.put, List.setIfInBounds_toArray, List.set_cons_succ, List.set_cons_zero]
       refine Lim.stepR 10 (fun _ => trivial) rfl (by kernel_rfl) (fun _ _ _ _ h => h) hC10 rfl ?_; apply Exists.intro; refine ⟨?_, ?_⟩
       ·rintro w ⟨⟨r1, r2, r3, r4⟩, r5, r6, r7, r8, r9, ra⟩; go_simp; try with_reducible rfl
       simp only [Act.put, List.setIfInBounds_toArray, List.set_cons_succ, List.set_cons_zero]
       refine Lim.stepR 11 (fun _ => trivial) rfl (by kernel_rfl) (fun _ _ _ _ h => h) hC10 rfl ?_; apply Exists.intro; refine ⟨?_, ?_⟩
       ·rintro w ⟨⟨r1, r2, r3, r4⟩, r5, r6, r7, r8, r9, ra⟩; go_simp; try with_reducible rfl
       simp only [Act.put, List.setIfInBounds_toArray, List.set_cons_succ, List.set_cons_zero]
       refine Lim.stepR 12 (fun _ => trivial) rfl (by kernel_rfl) (fun _ _ _ _ h => h) hC10 rfl ?_; apply Exists.intro; refine ⟨?_, ?_⟩
       ·rintro w ⟨⟨r1, r2, r3, r4⟩, r5, r6, r7, r8, r9, ra⟩; go_simp; try with_reducible rfl
       simp only [Act.put, List.setIfInBounds_toArray, List.set_cons_succ, List.set_cons_zero]
       refine Lim.stepR 13 (fun _ => trivial) rfl (by kernel_rfl) (fun _ _ _ _ h => h) hC10 rfl ?_; apply Exists.intro; refine ⟨?_, ?_⟩
       ·rintro w ⟨⟨r1, r2, r3, r4⟩, r5, r6, r7, r8, r9, ra⟩; go_simp; try with_reducible rfl
       simp only [Act.put, List.setIfInBounds_toArray, List.set_cons_succ, List.set_cons_zero]
       refine Lim.stepR 14 (fun _ => trivial) rfl (by kernel_rfl) (fun _ _ _ _ h => h) hC10 rfl ?_; apply Exists.intro; refine ⟨?_, ?_⟩
       ·rintro w ⟨⟨r1, r2, r3, r4⟩, r5, r6, r7, r8, r9, ra⟩; go_simp; try with_reducible rfl
       simp only [Act.put, List.setIfInBounds_toArray, List.set_cons_succ, List.set_cons_zero]
       refine Lim.stepR 15 (fun _ => trivial) rfl (by kernel_rfl) (fun _ _ _ _ h => h) hC10 rfl ?_; apply Exists.intro; refine ⟨?_, ?_⟩
       ·rintro w ⟨⟨r1, r2, r3, r4⟩, r5, r6, r7, r8, r9, ra⟩; go_simp; try with_reducible rfl
       simp only [Act.put, List.setIfInBounds_toArray, List.set_cons_succ, List.set_cons_zero]
       refine Lim.stepR 16 (fun _ => trivial) rfl (by kernel_rfl) (fun _ _ _ _ h => h) hC10 rfl ?_; apply Exists.intro; refine ⟨?_, ?_⟩
       ·rintro w ⟨⟨r1, r2, r3, r4⟩, r5, r6, r7, r8, r9, ra⟩; go_simp; try with_reducible rfl
       simp only [Act.put, List.setIfInBounds_toArray, List.set_cons_succ, List.set_cons_zero]
       refine Lim.stepR 17 (fun _ => trivial) rfl (by kernel_rfl) (fun _ _ _ _ h => h) hC10 rfl ?_; apply Exists.intro; refine ⟨?_, ?_⟩
       ·rintro w ⟨⟨r1, r2, r3, r4⟩, r5, r6, r7, r8, r9, ra⟩; go_simp; try with_reducible rfl
       simp only [Act.put, List.setIfInBounds_toArray, List.set_cons_succ, List.set_cons_zero]
       refine Lim.stepS 18 (fun _ => trivial) rfl (by kernel_rfl) (fun _ _ _ _ h => h) hC10 rfl ?_
       simp only [Act.put, List.setIfInBounds_toArray, List.set_cons_succ, List.set_cons_zero]
       refine Lim.stepS 19 (fun _ => trivial) rfl (by kernel_rfl) (fun _ _ _ _ h => h) hC10 rfl ?_
       simp only [Act.put, List.setIfInBounds_toArray, List.set_cons_succ, List.set_cons_zero]
       refine Lim.stepS 20 (fun _ => trivial) rfl (by kernel_rfl) (fun _ _ _ _ h => h) hC10 rfl ?_
       simp only [Act.put, List.setIfInBounds_toArray, List.set_cons_succ, List.set_cons_zero]
       refine Lim.stepS 21 (fun _ => trivial) rfl (by kernel_rfl) (fun _ _ _ _ h => h) hC10 rfl ?_
       simp only [Act.put, List.setIfInBounds_toArray, List.set_cons_succ, List.set_cons_zero]
       refine Lim.stepS 22 (fun _ => trivial) rfl (by kernel_rfl) (fun _ _ _ _ h => h) hC10 rfl ?_
       simp only [Act.put, List.setIfInBounds_toArray, List.set_cons_succ, List.set_cons_zero]
       refine Lim.stepS 23 (fun _ => trivial) rfl (by kernel_rfl) (fun _ _ _ _ h => h) hC10 rfl ?_
       simp only [Act.put, List.setIfInBounds_toArray, List.set_cons_succ, List.set_cons_zero]
       refine Lim.stepS 24 (fun _ => trivial) rfl (by kernel_rfl) (fun _ _ _ _ h => h) hC10 rfl ?_
       simp only [Act.put, List.setIfInBounds_toArray, List.set_cons_succ, List.set_cons_zero]
       refine Lim.stepS 25 (fun _ => trivial) rfl (by kernel_rfl) (fun _ _ _ _ h => h) hC10 rfl ?_
       simp only [Act.put, List.setIfInBounds_toArray, List.set_cons_succ, List.set_cons_zero]
       refine Lim.stepS 26 (fun _ => trivial) rfl (by kernel_rfl) (fun _ _ _ _ h => h) hC10 rfl ?_
       simp only [Act.put, List.setIfInBounds_toArray, List.set_cons_succ, List.set_cons_zero]
       refine Lim.stepS 27 (fun _ => trivial) rfl (by kernel_rfl) (fun _ _ _ _ h => h) hC10 rfl ?_
       simp only [Act.put, List.setIfInBounds_toArray, List.set_cons_succ, List.set_cons_zero]
       refine Lim.stepS 28 (fun _ => trivial) rfl (by kernel_rfl) (fun _ _ _ _ h => h) hC10 rfl ?_
       simp only [Act.put, List.setIfInBounds_toArray, List.set_cons_succ, List.set_cons_zero]
       refine Lim.stepS 29 (fun _ => trivial) rfl (by kernel_rfl) (fun _ _ _ _ h => h) hC10 rfl ?_
       simp only [Act.put, List.setIfInBounds_toArray, List.set_cons_succ, List.set_cons_zero]
       refine Lim.stepS 30 (fun _ => trivial) rfl (by kernel_rfl) (fun _ _ _ _ h => h) hC10 rfl ?_
       simp only [Act.put, List.setIfInBounds_toArray, List.set_cons_succ, List.set_cons_zero]
       refine Lim.stepR 31 (fun _ => trivial) rfl (by kernel_rfl) (fun _ _ _ _ h => h) hC10 rfl ?_; apply Exists.intro; refine ⟨?_, ?_⟩
       ·rintro w ⟨⟨r1, r2, r3, r4⟩, r5, r6, r7, r8, r9, ra⟩; go_simp; try with_reducible rfl
       simp only [Act.put, List.setIfInBounds_toArray, List.set_cons_succ, List.set_cons_zero]
       refine Lim.stepD (by kernel_rfl) ?_
       clear hC hC9 hC10
       go_wp2_with fail
       go_ret2
       exact HNG.out _ HP10.out.be (fun h => HE1.out (HGI.out.1 h).1)
    ·obtain rfl : k = ws.length := by omega
     have hlt' : ¬ (ws.length : Int) < (ws.length : Int) := by omega
     go_wp2_with fail
     go_ret2
     have hfull : (natW ws).take ws.length = natW ws := List.take_of_length_le (by simp [natW])
     have hI' := hI.out
     rw [hfull] at hI' ⊢
     exact HFIN.out _ _ hI'.1.be (.inr ⟨HE0.out, .inl ⟨⟨hI'.2.1, fun a b h1 h2 => hI'.2.2 a b h1 (by have h3 : b < os.length := h2; rw [HN.out]; exact h3)⟩, rfl⟩⟩)
 ·have g1 : (errL wd os es ss != 0) = true := by simpa using hr
  have HR := Lib.hid hr
  obtain ⟨er, her⟩ : ∃ er, er = errL wd os es ss := ⟨_, rfl⟩
  rw [← her] at g1 ⊢
  have HER := Lib.hid her
  clear hr her
  go_wp2_with fail
  go_ret2
  exact ⟨HB2.out, .inl ⟨HR.out, by rw [← HER.out]; rfl⟩⟩
end Go.Proofs.Ytkjcnkkmhkcddaa
