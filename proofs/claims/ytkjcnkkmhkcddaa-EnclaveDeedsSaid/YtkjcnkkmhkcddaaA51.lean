/-
  Parts of the proof, in the order in which they build: EyE.
-/
import Derived.Laws.AppendOwn
import Derived.Test.YtkjcnkkmhkcddaaA49
import Derived.Test.YtkjcnkkmhkcddaaA48
import Derived.Test.YtkjcnkkmhkcddaaA24
set_option linter.unusedVariables false
set_option linter.unusedSimpArgs false
namespace Go.Proofs.Ytkjcnkkmhkcddaa
open Go.RowKit Go.Shelf
open Lim

attribute [local go_sem] Oper.semAt_some

theorem rload_map {w : World} {b : Nat} {x y : Value} (h0 : w.cell? ⟨b, 0, none⟩ = some x) (h1 : w.cell? ⟨b, 1, none⟩ = some y) : (loadVar 28 ⟨b, 0, none⟩).run Try.prog w = .ok (.agg #[x, y]) w :=
 run_loadVar_mid w b 0 28 [x, y] _ (two_range h0 h1) Try.underlying28 rfl (show (Try.prog.info? 28).map (·.size) = some 2 by kernel_rfl)
/-- while a map of one's own is put together: an empty list, the owners behind it, the map, its box -/
structure ApP (w0 : World) (wd : Int) (os : List Int) (db da du dl ds : Bool) (xb xa xu yl : Value) (W : World) : Prop where
 be : Below w0.heap.size w0 W
 cb : db = true → da = false → W.ownsRow w0.heap.size 3 1 xb 0 []
 ca : da = true → W.ownsRow w0.heap.size 3 1 xa os.length (ints os)
 cu : du = true → da = true ∧ xu = .agg #[.int .i64 wd, xa]
 cl : dl = true → BoxP w0 W 28 ds xu yl
 ts : ds = true → du = true ∧ dl = true
section
variable {w0 W W' : World} {wd : Int} {os : List Int} {db da du dl ds : Bool} {xb xa xu yl : Value}
theorem ApP.no (H : ApP w0 wd os db da du dl ds xb xa xu yl W) (h : da = false) : du = false ∧ ds = false := by
 have h1 : du = false := by cases e : du with
  | false => rfl
  | true => have := (H.cu e).1; rw [h] at this; cases this
 refine ⟨h1, ?_⟩
 cases e : ds with
 | false => rfl
 | true => have := (H.ts e).1; rw [h1] at this; cases this
theorem ApP.grow (H : ApP w0 wd os db da du dl ds xb xa xu yl W) (hb : Below W.heap.size W W') : ApP w0 wd os db da du dl ds xb xa xu yl W' :=
 ⟨H.be.trans (hb.mono H.be.size), fun h h' => owns_below (H.cb h h') hb, fun h => owns_below (H.ca h) hb, H.cu, fun h => (H.cl h).grow hb, H.ts⟩
theorem ApP.mkB (H0 : ApP w0 wd os db da du dl ds xb xa xu yl W) (hd : db = false) : ApP w0 wd os true da du dl ds (.slice (some ⟨W.heap.size, 0, none⟩) 0 0) xa xu yl (W.alloc (.cells #[] 3)) := by
 have H := H0.grow ((Below.refl _ W).alloc (Nat.le_refl _) (.cells #[] 3))
 exact ⟨H.be, fun _ _ => ⟨rfl, .inr ⟨W.heap.size, 0, #[], rfl, H0.be.size, heap_alloc_new _ _, Nat.le_refl _, by unfold maxLen; omega, by simp, by simp⟩⟩, H.ca, H.cu, H.cl, H.ts⟩
theorem ApP.app (H : ApP w0 wd os db da du dl ds xb xa xu yl W) (hd : da = false) (hg : W.grownBy W' xb.ownBlock) (hob : W.ownsRow w0.heap.size 3 1 xb 0 []) {v : Value} (ho : W'.ownsRow w0.heap.size 3 1 v os.length (ints os)) : ApP w0 wd os db true du dl ds xb v xu yl W' := by
 have hn := H.no hd
 refine ⟨H.be.grown hg H.be.size (fun r e => (hob.lt r e).1), fun _ h => (by cases h), fun _ => ho, fun h => (by rw [hn.1] at h; cases h), fun h => ?_, fun h => (by rw [hn.2] at h; cases h)⟩
 obtain ⟨q, a, b, h1, h2, h3, -⟩ := H.cl h
 refine ⟨q, a, b, h1, h2, ?_, fun h => (by rw [hn.2] at h; cases h)⟩
 refine (hg.block q (Array.getElem?_eq_some_iff.1 h3).1 (fun e => ?_)).trans h3
 rcases hob.2 with ⟨rfl, -⟩ | ⟨g, cap, cur, rfl, -, hgg, -⟩
 ·cases e
 ·have e : g = q := by simp [Value.ownBlock] at e; omega
  subst e
  rw [hgg] at h3
  have h4 := congrArg (fun o => match o with | .cells _ t _ => some t | _ => none) (Option.some.inj h3)
  exact absurd (Option.some.inj h4) (by decide)
theorem ApP.bld (H : ApP w0 wd os db da du dl ds xb xa xu yl W) (ha : da = true) : ApP w0 wd os db da true dl ds xb xa (.agg #[.int .i64 wd, xa]) yl W := by
 have hs : ds = true → xu = .agg #[.int .i64 wd, xa] := fun h => (H.cu (H.ts h).1).2
 refine ⟨H.be, H.cb, H.ca, fun _ => ⟨ha, rfl⟩, fun h => ?_, fun h => ⟨rfl, (H.ts h).2⟩⟩
 obtain ⟨q, a, b, h1, h2, h3, h4⟩ := H.cl h
 exact ⟨q, a, b, h1, h2, h3, fun h => by rw [← h4 h, hs h]⟩
theorem ApP.box (H0 : ApP w0 wd os db da du dl ds xb xa xu yl W) (hd : dl = false) (a b : Value) : ApP w0 wd os db da du true ds xb xa xu (.pointer (some ⟨W.heap.size, 0, none⟩)) (W.alloc (.cells #[a, b] 28)) := by
 have H := H0.grow ((Below.refl _ W).alloc (Nat.le_refl _) (.cells #[a, b] 28))
 have hs : ds = false := by cases h : ds with
  | false => rfl
  | true => have := (H0.ts h).2; rw [hd] at this; cases this
 exact ⟨H.be, H.cb, H.ca, H.cu, fun _ => ⟨W.heap.size, a, b, rfl, H0.be.size, heap_alloc_new _ _, fun e => (by rw [hs] at e; cases e)⟩, fun e => (by rw [hs] at e; cases e)⟩
theorem ApP.put (H : ApP w0 wd os db da du dl ds xb xa (.agg #[.int .i64 wd, xa]) yl W) {q : Nat} {a b : Value} (hu : du = true) (hl : dl = true) (hq : W.heap[q]? = some (.cells #[a, b] 28 (0, 0))) (hge : w0.heap.size ≤ q) : ApP w0 wd os db da du dl true xb xa (.agg #[.int .i64 wd, xa]) (.pointer (some ⟨q, 0, none⟩)) ((W.setCell ⟨q, 0, none⟩ (.int .i64 wd)).setCell ⟨q, 1, none⟩ xa) := by
 have hs : Sep (fun k => k = q) W ((W.setCell ⟨q, 0, none⟩ (.int .i64 wd)).setCell ⟨q, 1, none⟩ xa) := (Sep.set W q 0 _).trans (Sep.set _ q 1 _)
 exact ⟨(H.be.setCell (p := ⟨q, 0, none⟩) hge _).setCell (p := ⟨q, 1, none⟩) hge _, fun h h' => owns_box (cs := []) (H.cb h h') hq (by decide) hs, fun h => owns_box (cs := []) (H.ca h) hq (by decide) hs, H.cu, fun _ => ⟨q, _, _, rfl, hge, heap_set_pair _ _ hq, fun _ => rfl⟩, fun _ => ⟨hu, hl⟩⟩
end
/-- while plots are given: the map of one's own at q9, its owners at g9 -/
structure RgO (w3 : World) (q9 g9 c9 : Nat) (wd : Int) (n : Nat) (O : Nat → Int) (W : World) : Prop where
 be : Below w3.heap.size w3 W
 c0 : W.cell? ⟨q9, 0, none⟩ = some (.int .i64 wd)
 c1 : W.cell? ⟨q9, 1, none⟩ = some (.slice (some ⟨g9, 0, none⟩) n c9)
 row : RowK W g9 n c9 O
 lt : w3.heap.size ≤ q9 ∧ w3.heap.size ≤ g9 ∧ q9 ≠ g9
theorem RgO.on {w3 W W' : World} {q9 g9 c9 n : Nat} {wd : Int} {O : Nat → Int} (h : RgO w3 q9 g9 c9 wd n O W) (hb : Below W.heap.size W W') : RgO w3 q9 g9 c9 wd n O W' :=
 ⟨h.be.trans (hb.mono h.be.size), hb.on h.c0, hb.on h.c1, h.row.sep (T := fun _ => False) (Sep.of_below hb) id, h.lt⟩
theorem RgO.set {w3 W : World} {q9 g9 c9 n : Nat} {wd : Int} {O : Nat → Int} (h : RgO w3 q9 g9 c9 wd n O W) {j : Nat} (hj : j < n) (v : Int) : RgO w3 q9 g9 c9 wd n (upd O j v) (W.setCell ⟨g9, j, none⟩ (.int .i64 v)) := by
 have hs := Sep.set W g9 j (.int .i64 v)
 exact ⟨h.be.setCell (p := ⟨g9, j, none⟩) h.lt.2.1 _, hs.cell h.c0 h.lt.2.2, hs.cell h.c1 h.lt.2.2, h.row.put hj v, h.lt⟩
set_option maxRecDepth 20000 in
set_option maxHeartbeats 8000000 in
theorem rGive_any {B : Nat} {wd : Int} {ov : Value} {os : List Int} (i : Int) {w : World} (hl : os.length ≤ 100000) (hB : B ≤ w.heap.size) (hv : RS B w ov os.length (ints os)) :
  Calls Try.prog 16 #[.agg #[.int .i64 wd, ov], .int .i64 i] w fun e w' => GveAns wd os i w e w' := by
 have hb : Below w.heap.size w ((w.alloc (.cells #[.int .i64 wd, ov] 28)).alloc (.cells #[.int .i64 0, .slice none 0 0] 28)) := ((Below.refl _ w).alloc (Nat.le_refl _) _).alloc (by simp) _
 have HDE := Lib.hid (rDepths_any (wd := wd) (w := (w.alloc (.cells #[.int .i64 wd, ov] 28)).alloc (.cells #[.int .i64 0, .slice none 0 0] 28)) hl (Nat.le_trans hB hb.size) (hv.below (hb.mono hB)))
 have HRG2 : Hid (∀ W, Below w.heap.size w W → Calls Try.prog 29 #[.agg #[.int .i64 wd, ov]] W fun e w' => RRegAns wd os W e w') := Lib.hid fun W hW => rRegions_any hl (Nat.le_trans hB hW.size) (hv.below (hW.mono hB))
 have HV := Lib.hid (And.intro hB hv)
 obtain ⟨oa, oc, rfl, -⟩ := hv
 have f0 : ((w.alloc (.cells #[.int .i64 wd, .slice oa os.length oc] 28)).alloc (.cells #[.int .i64 0, .slice none 0 0] 28)).cell? ⟨w.heap.size, 0, none⟩ = some (.int .i64 wd) := by simp [go_sem]
 have f1 : ((w.alloc (.cells #[.int .i64 wd, .slice oa os.length oc] 28)).alloc (.cells #[.int .i64 0, .slice none 0 0] 28)).cell? ⟨w.heap.size, 1, none⟩ = some (.slice oa os.length oc) := by simp [go_sem]
 have f2 : ((w.alloc (.cells #[.int .i64 wd, .slice oa os.length oc] 28)).alloc (.cells #[.int .i64 0, .slice none 0 0] 28)).cell? ⟨w.heap.size + 1, 0, none⟩ = some (.int .i64 0) := by simp [go_sem]
 have f3 : ((w.alloc (.cells #[.int .i64 wd, .slice oa os.length oc] 28)).alloc (.cells #[.int .i64 0, .slice none 0 0] 28)).cell? ⟨w.heap.size + 1, 1, none⟩ = some (.slice none 0 0) := by simp [go_sem]
 have f4 : ((w.alloc (.cells #[.int .i64 wd, .slice oa os.length oc] 28)).alloc (.cells #[.int .i64 0, .slice none 0 0] 28)).frozen? ⟨w.heap.size + 1, 0, none⟩ = false := by simp [go_sem]
 have f5 : ((w.alloc (.cells #[.int .i64 wd, .slice oa os.length oc] 28)).alloc (.cells #[.int .i64 0, .slice none 0 0] 28)).frozen? ⟨w.heap.size + 1, 1, none⟩ = false := by simp [go_sem]
 have HB := Lib.hid hb
 clear hb hB hl
 go_enter Try.func16, Try.ntmps16
 refine wp_noPanic ?_
 go_wp2_with fail
 generalize (w.alloc (.cells #[.int .i64 wd, .slice oa os.length oc] 28)).alloc (.cells #[.int .i64 0, .slice none 0 0] 28) = w1 at HB HDE f0 f1 f2 f3 f4 f5 ⊢
 obtain ⟨q, hq⟩ : ∃ q, q = w.heap.size := ⟨_, rfl⟩
 obtain ⟨q4, hq4⟩ : ∃ q, q = w.heap.size + 1 := ⟨_, rfl⟩
 have HQ := Lib.hid (And.intro hq hq4)
 rw [← hq4] at f2 f3 f4 f5 ⊢
 rw [← hq] at f0 f1 ⊢
 clear hq hq4
 refine HDE.out.mono ?_
 rintro e w2 ⟨hb, h⟩
 replace f4 := frozen_on hb f2 f4
 replace f5 := frozen_on hb f3 f5
 replace f0 := hb.on f0
 replace f1 := hb.on f1
 replace f2 := hb.on f2
 replace f3 := hb.on f3
 have HB2 := Lib.hid (HB.out.trans (hb.mono HB.out.size))
 clear hb HB HDE w1
 rcases h with ⟨he, rfl⟩ | ⟨he, g1, g2, r, k, A, rfl, hr, hk, hA, hd, ha⟩
 ·have z1 : (errE wd os == 0) = false := by simpa using he
  have z2 : (errE wd os != 0) = true := by simpa using he
  have HE := Lib.hid he
  obtain ⟨er, her⟩ : ∃ er, er = errE wd os := ⟨_, rfl⟩
  rw [← her] at z1 z2 ⊢
  have HER := Lib.hid her
  clear he her
  go_wp2_with fail
  have hs : Sep (fun x => x = q4) w2 ((w2.setCell ⟨q4, 0, none⟩ (.int .i64 0)).setCell ⟨q4, 1, none⟩ (.slice none 0 0)) := (Sep.set w2 q4 0 _).trans (Sep.set _ q4 1 _)
  have r0 : ((w2.setCell ⟨q4, 0, none⟩ (.int .i64 0)).setCell ⟨q4, 1, none⟩ (.slice none 0 0)).cell? ⟨q4, 0, none⟩ = some (.int .i64 0) := by rw [setCell_off _ _ (by omega)]; exact setCell_same _ _ f2
  have r1 : ((w2.setCell ⟨q4, 0, none⟩ (.int .i64 0)).setCell ⟨q4, 1, none⟩ (.slice none 0 0)).cell? ⟨q4, 1, none⟩ = some (.slice none 0 0) := setCell_same _ _ (by rw [setCell_off _ _ (by omega)]; exact f3)
  refine bodyPost_ret (results_ct (fn := Try.f16) (p := 4) (u := 5) (ty := 28) rfl _ _ q4 _ rfl (rload_map r0 r1)) rfl ?_
  exact ⟨HB2.out.trans (hs.below HB2.out.size (fun x hx => by rw [hx]; have := HQ.out; omega)), .inl ⟨HE.out, by rw [← HER.out]; rfl⟩⟩

 ·obtain ⟨m, hm⟩ : ∃ m : Mp, m = ⟨wd.toNat, os⟩ := ⟨_, rfl⟩
  have HMN : Hid (m.n ≤ 100 ∧ m.Ok) := Lib.hid (by rw [hm]; exact ⟨(errE_ok he).1.n1, (errE_ok he).1⟩)
  have hwd : wd = (m.wd : Int) := by rw [hm]; exact (errE_ok he).2
  have hos : os = m.os := by rw [hm]
  have HE := Lib.hid he
  rw [← hm] at hr hk hA hd
  have HMS : Hid ((⟨wd.toNat, os⟩ : Mp) = m) := Lib.hid hm.symm
  clear hm
  subst hwd hos
  have hnn : m.os.length = m.n := rfl
  simp only [hnn] at f1 HV HRG2 ⊢
  have HK := Lib.hid (And.intro hr (And.intro hk hA))
  have hk100 : k ≤ 100 := Nat.le_trans hk.le HMN.out.1
  have hk1 : 1 ≤ k := hk.pos HMN.out.2
  obtain ⟨_, _, e0, hac⟩ := ha
  injection e0 with e0 _ e1
  subst e0 e1
  obtain ⟨gb, go, e0, hgb, hac⟩ := hac (ints_ne (by simp; omega))
  simp only [Option.some.injEq, Addr.mk.injEq, and_true] at e0
  obtain ⟨rfl, rfl⟩ := e0
  have HAC : Hid (∀ i', i' < k → w2.cell? ⟨g2, 0 + i', none⟩ = some (.int .i64 (A i'))) := Lib.hid fun i' hi => hac i' _ (by simp [ints, hi])
  clear he hr hk hA hd hac hgb hnn
  have hw1 : IntKind.i64.wrap ((k : Int) - 1) = (k : Int) - 1 := IntWalk.i64_in _ (by omega)
  cases h1 : inB i 0 ((k : Int) - 1) with
  | false =>
   have H1 := Lib.hid h1
   clear h1
   go_wp2_with fail
   refine (outside_any _ _ _ _).mono ?_
   rintro e w' ⟨rfl, rfl⟩
   rw [H1.out]
   try simp only [Bool.not_false]
   go_wp2_with fail
   have hs : Sep (fun x => x = q4) w2 ((w2.setCell ⟨q4, 0, none⟩ (.int .i64 0)).setCell ⟨q4, 1, none⟩ (.slice none 0 0)) := (Sep.set w2 q4 0 _).trans (Sep.set _ q4 1 _)
   have r0 : ((w2.setCell ⟨q4, 0, none⟩ (.int .i64 0)).setCell ⟨q4, 1, none⟩ (.slice none 0 0)).cell? ⟨q4, 0, none⟩ = some (.int .i64 0) := by rw [setCell_off _ _ (by omega)]; exact setCell_same _ _ f2
   have r1 : ((w2.setCell ⟨q4, 0, none⟩ (.int .i64 0)).setCell ⟨q4, 1, none⟩ (.slice none 0 0)).cell? ⟨q4, 1, none⟩ = some (.slice none 0 0) := setCell_same _ _ (by rw [setCell_off _ _ (by omega)]; exact f3)
   refine bodyPost_ret (results_ct (fn := Try.f16) (p := 4) (u := 5) (ty := 28) rfl _ _ q4 _ rfl (rload_map r0 r1)) rfl ?_
   rw [← HMS.out] at HK
   exact ⟨HB2.out.trans (hs.below HB2.out.size (fun x hx => by rw [hx]; have := HQ.out; omega)), .inr ⟨HE.out, r, k, HK.out.1, HK.out.2.1, .inl ⟨H1.out, rfl⟩⟩⟩

  | true =>
   have H1 := Lib.hid h1
   have h1' := inB_iff.1 h1
   obtain ⟨i', rfl⟩ : ∃ i' : Nat, i = i' := ⟨i.toNat, by omega⟩
   have hik : i' < k := by omega
   obtain ⟨x, hx⟩ : ∃ x, x = A i' := ⟨_, rfl⟩
   have d2 := HAC.out i' hik
   rw [Nat.zero_add, ← hx] at d2
   have HX : Hid (IsAr m r i' k x) := Lib.hid (by rw [hx]; exact HK.out.2.2 i' hik)
   clear h1' hx h1
   by_cases hx1 : x = -1
   ·subst hx1
    go_wp2_with fail
    refine (outside_any _ _ _ _).mono ?_
    rintro e w' ⟨rfl, rfl⟩
    rw [H1.out]
    try simp only [Bool.not_true]
    go_wp2_with fail
    have hs : Sep (fun x => x = q4) w2 ((w2.setCell ⟨q4, 0, none⟩ (.int .i64 0)).setCell ⟨q4, 1, none⟩ (.slice none 0 0)) := (Sep.set w2 q4 0 _).trans (Sep.set _ q4 1 _)
    have r0 : ((w2.setCell ⟨q4, 0, none⟩ (.int .i64 0)).setCell ⟨q4, 1, none⟩ (.slice none 0 0)).cell? ⟨q4, 0, none⟩ = some (.int .i64 0) := by rw [setCell_off _ _ (by omega)]; exact setCell_same _ _ f2
    have r1 : ((w2.setCell ⟨q4, 0, none⟩ (.int .i64 0)).setCell ⟨q4, 1, none⟩ (.slice none 0 0)).cell? ⟨q4, 1, none⟩ = some (.slice none 0 0) := setCell_same _ _ (by rw [setCell_off _ _ (by omega)]; exact f3)
    refine bodyPost_ret (results_ct (fn := Try.f16) (p := 4) (u := 5) (ty := 28) rfl _ _ q4 _ rfl (rload_map r0 r1)) rfl ?_
    rw [← HMS.out] at HK HX
    exact ⟨HB2.out.trans (hs.below HB2.out.size (fun x hx => by rw [hx]; have := HQ.out; omega)), .inr ⟨HE.out, r, k, HK.out.1, HK.out.2.1, .inr ⟨H1.out, -1, HX.out, .inl ⟨rfl, rfl⟩⟩⟩⟩

   ·have hx0 : ∃ ra : Nat, x = ra ∧ ra < k := by
     rcases HX.out with ⟨h, -⟩ | ⟨ra, h1, h2, -⟩
     ·exact absurd h hx1
     ·exact ⟨ra, h1, h2⟩
    obtain ⟨ra, rfl, hak⟩ := hx0
    have gx : decide ((ra : Int) < 0) = false := by simp
    have HRG3 := Lib.hid (HRG2.out w2 HB2.out)
    go_wp2_with fail
    refine (outside_any _ _ _ _).mono ?_
    rintro e w' ⟨rfl, rfl⟩
    rw [H1.out]
    try simp only [Bool.not_true]
    go_wp2_with fail
    refine HRG3.out.mono ?_
    clear HRG2 HRG3 HAC
    rintro e w3 ⟨hb, h⟩
    rcases h with ⟨he, -⟩ | ⟨-, lv, r', k', rfl, hr', -, hl⟩
    ·exact absurd HE.out he
    rw [HMS.out] at hr'
    have hrr : regL r' m.n = regL r m.n := by
     unfold regL
     exact List.map_congr_left fun p hp => by rw [hr'.unique HK.out.1 p (List.mem_range.1 hp)]
    have hnn : m.os.length = m.n := rfl
    rw [hnn, hrr] at hl
    clear hnn
    have HL := Lib.hid hl
    obtain ⟨gl, gf, gc, rfl, -, hlc⟩ := reg_cell hl HMN.out.2.n0
    have HLC : Hid (∀ p, p < m.n → w3.cell? ⟨gl, gf + p, none⟩ = some (.int .i64 (r p : Nat))) := Lib.hid hlc
    replace f4 := frozen_on hb f2 f4
    replace f5 := frozen_on hb f3 f5
    replace f0 := hb.on f0
    replace f1 := hb.on f1
    replace f2 := hb.on f2
    replace f3 := hb.on f3
    replace d2 := hb.on d2
    have HB3 := Lib.hid (HB2.out.trans (hb.mono HB2.out.size))
    clear hb hrr hl hlc hr'
    obtain ⟨_, _, e0, hoc⟩ := HV.out.2
    injection e0 with e0 _ e1
    subst e0 e1
    obtain ⟨ob, oo, rfl, hob, hocell⟩ := hoc (ints_ne HMN.out.2.n0)
    have HOW : Hid (∀ W, Below w3.drew.heap.size w3.drew W → ∀ j u, (ints m.os)[j]? = some u → W.cell? ⟨ob, oo + j, none⟩ = some u) := Lib.hid fun W hW j u hj => cell_below (B := B) ((HB3.out.drew.trans (hW.mono HB3.out.drew.size)).mono HV.out.1) (hocell j u hj) hob
    have HQB : Hid (q < w3.drew.heap.size) := Lib.hid (World.block_lt_of_cell? _ _ f0)
    clear hoc hob hocell
    go_wp2_with fail
    have hC : (fun W => W.cell? ⟨q, 0, none⟩ = some (.int .i64 m.wd) ∧ W.cell? ⟨q, 1, none⟩ = some (.slice (some ⟨ob, oo, none⟩) m.n oc)) w3.drew := ⟨f0, f1⟩
    refine Lim.regC' (fun W => W.cell? ⟨q, 0, none⟩ = some (.int .i64 m.wd) ∧ W.cell? ⟨q, 1, none⟩ = some (.slice (some ⟨ob, oo, none⟩) m.n oc)) [] #[false, false, false, false, false, false, false, false, false] (by kernel_rfl) rfl ?_
    refine Lim.stepR 0 (fun _ => trivial) rfl (by kernel_rfl) (fun _ _ _ _ h => h) hC rfl ?_; apply Exists.intro; refine ⟨?_, ?_⟩
    ·rintro w ⟨r0, r1⟩; go_simp; try with_reducible rfl
    simp only [Act.put, List.setIfInBounds_toArray, List.set_cons_succ, List.set_cons_zero]
    refine Lim.stepR 1 (fun _ => trivial) rfl (by kernel_rfl) (fun _ _ _ _ h => h) hC rfl ?_; apply Exists.intro; refine ⟨?_, ?_⟩
    ·rintro w ⟨r0, r1⟩; go_simp; try with_reducible rfl
    simp only [Act.put, List.setIfInBounds_toArray, List.set_cons_succ, List.set_cons_zero]
    refine Lim.stepR 3 (fun _ => trivial) rfl (by kernel_rfl) (fun _ _ _ _ h => h) hC rfl ?_; apply Exists.intro; refine ⟨?_, ?_⟩
    ·rintro w ⟨r0, r1⟩; go_simp; try with_reducible rfl
    simp only [Act.put, List.setIfInBounds_toArray, List.set_cons_succ, List.set_cons_zero]
    refine Lim.stepR 4 (fun _ => trivial) rfl (by kernel_rfl) (fun _ _ _ _ h => h) hC rfl ?_; apply Exists.intro; refine ⟨?_, ?_⟩
    ·rintro w ⟨r0, r1⟩; go_simp; try with_reducible rfl
    simp only [Act.put, List.setIfInBounds_toArray, List.set_cons_succ, List.set_cons_zero]
    clear hC
    refine Lim.parC [2, 5, 6, 7, 8] (fun done a W => ∃ xb xa xu yl, a = { tmps := #[.agg #[.int .i64 m.wd, .slice (some ⟨ob, oo, none⟩) m.n oc], .int .i64 i', .pointer (some ⟨q, 0, none⟩), undef, .pointer (some ⟨q4, 0, none⟩), .int .i64 0, .slice (some ⟨g1, 0, none⟩) k k, .slice (some ⟨g2, 0, none⟩) k k, .int .i64 0, .slice (some ⟨gl, gf, none⟩) m.n gc, .int .i64 0, yl, undef, .tuple #[.slice (some ⟨g1, 0, none⟩) k k, .slice (some ⟨g2, 0, none⟩) k k, .int .i64 0], .agg #[.int .i64 m.wd, .slice (some ⟨ob, oo, none⟩) m.n oc], .tuple #[.slice (some ⟨g1, 0, none⟩) k k, .slice (some ⟨g2, 0, none⟩) k k, .int .i64 0], .slice (some ⟨g1, 0, none⟩) k k, .slice (some ⟨g2, 0, none⟩) k k, .int .i64 0, .int .i64 0, .bool false, undef, undef, .int .i64 i', .slice (some ⟨g2, 0, none⟩) k k, .int .i64 k, .int .i64 (k - 1), .bool false, undef, .slice (some ⟨g2, 0, none⟩) k k, .int .i64 i', .pointer (some ⟨g2, i', none⟩), .int .i64 ra, .bool false, undef, .tuple #[.slice (some ⟨gl, gf, none⟩) m.n gc, .int .i64 0], .agg #[.int .i64 m.wd, .slice (some ⟨ob, oo, none⟩) m.n oc], .tuple #[.slice (some ⟨gl, gf, none⟩) m.n gc, .int .i64 0], .slice (some ⟨gl, gf, none⟩) m.n gc, .int .i64 0, .pointer (some ⟨q, 0, none⟩), .int .i64 m.wd, xb, .pointer (some ⟨q, 1, none⟩), .slice (some ⟨ob, oo, none⟩) m.n oc, xa, xu, undef, undef, undef, undef, undef, undef, undef, undef, undef, undef, undef, undef, undef, undef, undef, undef, undef, undef, undef, undef, undef, undef, undef, undef], defers := [] } ∧ ApP w3.drew m.wd m.os (done 2) (done 5) (done 6) (done 7) (done 8) xb xa xu yl W ∧ (fun W => W.cell? ⟨q, 0, none⟩ = some (.int .i64 m.wd) ∧ W.cell? ⟨q, 1, none⟩ = some (.slice (some ⟨ob, oo, none⟩) m.n oc)) W) (fun _ => trivial) (by kernel_rfl) rfl rfl ?hC ?step ?fin ⟨_, _, _, _, rfl, ?st, ⟨f0, f1⟩⟩
    case st => exact ⟨Below.refl _ _, fun h _ => (by cases h), fun h => (by cases h), fun h => (by cases h), fun h => (by cases h), fun h => (by cases h)⟩
    case hC => rintro done a W ⟨_, _, _, _, -, -, hc⟩; exact hc
    case step =>
     intro i o hi ho done a W hd hdep hS K hK
     obtain ⟨xb, xa, xu, yl, rfl, H, ⟨hc0, hc1⟩⟩ := hS
     simp only [List.mem_cons, List.not_mem_nil, or_false] at hi
     rcases hi with rfl | rfl | rfl | rfl | rfl
     ·cases ho
      clear hdep
      go_simp
      refine hK _ _ ?_
      have hb : Below W.heap.size W (W.alloc (.cells #[] 3)) := (Below.refl _ W).alloc (Nat.le_refl _) _
      exact ⟨_, xa, xu, yl, rfl, H.mkB hd, ⟨hb.on hc0, hb.on hc1⟩⟩
     ·cases ho
      have hb0 := hdep 2 (by kernel_rfl) (by simp)
      clear hdep
      have hob := H.cb hb0 hd
      obtain ⟨i0, hi, hz0, hz1, hz2⟩ := info_parts Try.infoInt
      obtain ⟨v', W', hrun, hown, hgrow, -⟩ := run_append_own (P := Try.prog) W w3.drew.heap.size 22 22 3 i0 (.int .i64 0) 1 8 Try.underlying22 hi hz0 hz1 hz2 rfl (by decide) _ _ _ hob ⟨ob, oo, none⟩ m.n oc (ints m.os) (by rw [ints_length]; exact (Nat.mul_one _).symm) (fun j u hj => by rw [addr_add]; exact HOW.out W H.be j u hj) (by intro u hu; simp [ints] at hu; obtain ⟨x, -, rfl⟩ := hu; rfl) (by have := HMN.out; unfold maxLen; omega) (by have := HMN.out; omega) H.be.size
      have hb : Below w3.drew.heap.size W W' := (Below.refl _ W).mono H.be.size |>.grown hgrow H.be.size (fun r e => hob.lt r e |>.1)
      refine Lim.append_upon rfl rfl rfl hrun (hK _ _ ?_)
      rw [Nat.zero_add, List.nil_append] at hown
      exact ⟨xb, _, xu, yl, rfl, H.app hd hgrow hob hown, ⟨cell_below hb hc0 HQB.out, cell_below hb hc1 HQB.out⟩⟩
     ·cases ho
      have ha := hdep 5 (by kernel_rfl) (by simp)
      clear hdep
      have h1 := RS.of_owns (H.ca ha)
      obtain ⟨ga, gc, rfl, -⟩ := h1
      go_simp
      refine hK _ _ ?_
      exact ⟨xb, _, _, yl, rfl, H.bld ha, ⟨hc0, hc1⟩⟩
     ·cases ho
      clear hdep
      go_simp
      refine hK _ _ ?_
      have hb : Below W.heap.size W (W.alloc (.cells #[.int .i64 0, .slice none 0 0] 28)) := (Below.refl _ W).alloc (Nat.le_refl _) _
      exact ⟨xb, xa, xu, _, rfl, H.box hd _ _, ⟨hb.on hc0, hb.on hc1⟩⟩
     ·cases ho
      have hu := hdep 6 (by kernel_rfl) (by simp)
      have hl := hdep 7 (by kernel_rfl) (by simp)
      clear hdep
      obtain ⟨ha, rfl⟩ := H.cu hu
      obtain ⟨ga, gc, rfl, -⟩ := RS.of_owns (H.ca ha)
      obtain ⟨qb, b0, b1, rfl, hge, hq, -⟩ := H.cl hl
      obtain ⟨⟨z0, z1⟩, z2, z3⟩ := two_cells hq
      have HPU := Lib.hid (H.put hu hl hq hge)
      have HNQ : Hid (q ≠ qb) := Lib.hid (by have h1 := HQB.out; omega)
      clear hq hge
      go_simp
      refine hK _ _ ?_
      exact ⟨xb, _, _, _, rfl, HPU.out, ⟨(setCell_far _ _ HNQ.out.symm).trans ((setCell_far _ _ HNQ.out.symm).trans hc0), (setCell_far _ _ HNQ.out.symm).trans ((setCell_far _ _ HNQ.out.symm).trans hc1)⟩⟩
    case fin =>
     rintro done a W hall ⟨xb, xa, xu, yl, rfl, H, ⟨hc0, hc1⟩⟩
     obtain ⟨ha, rfl⟩ := H.cu (hall 6 (by simp))
     have hrow := H.ca ha
     obtain ⟨q9, a9, b9, rfl, hge9', hq9, hs9⟩ := H.cl (hall 7 (by simp))
     have e1 := hs9 (hall 8 (by simp))
     simp only [Value.agg.injEq, Array.mk.injEq, List.cons.injEq, and_true] at e1
     obtain ⟨rfl, rfl⟩ := e1
     have hbe := H.be
     have hge9 : w3.drew.heap.size ≤ q9 := hge9'
     clear H hall
     obtain ⟨q9', eq9⟩ : ∃ q, q = q9 := ⟨_, rfl⟩
     have hwp : m.os.length = m.n := rfl
     rw [hwp] at hrow
     obtain ⟨g9, c9, rfl, hg9, hR9⟩ := RowK.of_owns hrow HMN.out.2.n0
     have hR9 : RowK W g9 m.n c9 m.own := ⟨fun j hj => hR9.c j hj, hR9.f, hR9.o, hR9.le⟩
     obtain ⟨⟨z0, z1⟩, -, -⟩ := two_cells hq9
     have hne : q9 ≠ g9 := fun e => by
      obtain ⟨cur, h4, -⟩ := hR9.o
      rw [← e, hq9] at h4
      have h4 := congrArg (fun o => match o with | .cells _ t _ => some t | _ => none) (Option.some.inj h4)
      exact absurd (Option.some.inj h4) (by decide)
     have M0 : Hid (RgO w3 q9 g9 c9 m.wd m.n m.own W) := Lib.hid ⟨((Below.refl _ w3).drew).trans hbe, z0, z1, hR9, hge9, hg9, hne⟩
     clear hR9 hrow hq9 hs9 hbe hge9 hg9 hne z0 z1 hwp eq9 q9' hc0 hc1 ha
     try clear hC
     have hn64 : (m.n : Int) < 1000 := by have := HMN.out.1; omega
     go_wp2_with fail
     go_loopw [12] (fun v wr => ∃ t : Nat, t ≤ m.n ∧ v = .int .i64 t ∧ ∃ O : Nat → Int, Hid (RgO w3 q9 g9 c9 m.wd m.n O wr ∧ IsGiv m r (fun j => if j = i' then (ra : Int) else -1) O t)) (fun v _ => m.n - (intOf v).toNat)
     case atStart => exact ⟨0, Nat.zero_le _, rfl, _, Lib.hid ⟨M0.out, fun q hq => absurd hq (Nat.not_lt_zero _), fun q hq => absurd hq (Nat.not_lt_zero _), fun _ _ _ => rfl⟩⟩
     case round =>
      clear M0
      obtain ⟨t, ht, rfl, O, hI⟩ := hrel
      by_cases hlt : t < m.n
      ·have ht64 : (t : Int) < 1000 := by omega
       have d1 := hI.out.1.be.on (HLC.out t hlt)
       obtain ⟨rt, hrt⟩ : ∃ rt, rt = r t := ⟨_, rfl⟩
       rw [← hrt] at d1
       by_cases h2 : rt = i'
       ·have HRT := Lib.hid (hrt.symm.trans h2)
        subst h2
        have k0 := hI.out.1.be.on f0
        have k1 := hI.out.1.be.on f1
        have k2 := hI.out.1.be.on d2
        have k3 := hI.out.1.c1
        have HOWN := Lib.hid (rowner_any (B := wr.drew.heap.size) (x := ra) (ov := .slice (some ⟨ob, oo, none⟩) m.n oc) (lv := .slice (some ⟨gl, gf, none⟩) m.n gc) (w := wr.drew) HMN.out.2 (Nat.le_refl _) ((HV.out.2.below (((HB3.out.trans (hI.out.1.be.mono HB3.out.size)).mono HV.out.1).drew)).mono (by have := HV.out.1; have := HB3.out.size; have := hI.out.1.be.size; show B ≤ wr.heap.size; omega)) ((HL.out.below hI.out.1.be.drew).mono hI.out.1.be.size) (HK.out.2.1.ex ra hak))
        have hC : (fun W => W.cell? ⟨q, 0, none⟩ = some (.int .i64 m.wd) ∧ W.cell? ⟨q, 1, none⟩ = some (.slice (some ⟨ob, oo, none⟩) m.n oc) ∧ W.cell? ⟨g2, rt, none⟩ = some (.int .i64 ra) ∧ W.cell? ⟨q9, 1, none⟩ = some (.slice (some ⟨g9, 0, none⟩) m.n c9)) wr.drew := ⟨k0, k1, k2, k3⟩
        clear hrt k0 k1 k2 k3
        go_wp2_with fail
        refine Lim.regC' (fun W => W.cell? ⟨q, 0, none⟩ = some (.int .i64 m.wd) ∧ W.cell? ⟨q, 1, none⟩ = some (.slice (some ⟨ob, oo, none⟩) m.n oc) ∧ W.cell? ⟨g2, rt, none⟩ = some (.int .i64 ra) ∧ W.cell? ⟨q9, 1, none⟩ = some (.slice (some ⟨g9, 0, none⟩) m.n c9)) [11] #[false, false, false, false, false, false, false, false, false, false, false, false] (by kernel_rfl) rfl ?_
        refine Lim.stepR 0 (fun _ => trivial) rfl (by kernel_rfl) (fun _ _ _ _ h => h) hC rfl ?_; apply Exists.intro; refine ⟨?_, ?_⟩
        ·rintro w ⟨r1, r2, r3, r4⟩; go_simp; try with_reducible rfl
        simp only [Act.put, List.setIfInBounds_toArray, List.set_cons_succ, List.set_cons_zero]
        refine Lim.stepR 1 (fun _ => trivial) rfl (by kernel_rfl) (fun _ _ _ _ h => h) hC rfl ?_; apply Exists.intro; refine ⟨?_, ?_⟩
        ·rintro w ⟨r1, r2, r3, r4⟩; go_simp; try with_reducible rfl
        simp only [Act.put, List.setIfInBounds_toArray, List.set_cons_succ, List.set_cons_zero]
        refine Lim.stepR 2 (fun _ => trivial) rfl (by kernel_rfl) (fun _ _ _ _ h => h) hC rfl ?_; apply Exists.intro; refine ⟨?_, ?_⟩
        ·rintro w ⟨r1, r2, r3, r4⟩; go_simp; try with_reducible rfl
        simp only [Act.put, List.setIfInBounds_toArray, List.set_cons_succ, List.set_cons_zero]
        refine Lim.stepR 3 (fun _ => trivial) rfl (by kernel_rfl) (fun _ _ _ _ h => h) hC rfl ?_; apply Exists.intro; refine ⟨?_, ?_⟩
        ·rintro w ⟨r1, r2, r3, r4⟩; go_simp; try with_reducible rfl
        simp only [Act.put, List.setIfInBounds_toArray, List.set_cons_succ, List.set_cons_zero]
        refine Lim.stepR 4 (fun _ => trivial) rfl (by kernel_rfl) (fun _ _ _ _ h => h) hC rfl ?_; apply Exists.intro; refine ⟨?_, ?_⟩
        ·rintro w ⟨r1, r2, r3, r4⟩; go_simp; try with_reducible rfl
        simp only [Act.put, List.setIfInBounds_toArray, List.set_cons_succ, List.set_cons_zero]
        refine Lim.stepR 5 (fun _ => trivial) rfl (by kernel_rfl) (fun _ _ _ _ h => h) hC rfl ?_; apply Exists.intro; refine ⟨?_, ?_⟩
        ·rintro w ⟨r1, r2, r3, r4⟩; go_simp; try with_reducible rfl
        simp only [Act.put, List.setIfInBounds_toArray, List.set_cons_succ, List.set_cons_zero]
        refine Lim.stepR 6 (fun _ => trivial) rfl (by kernel_rfl) (fun _ _ _ _ h => h) hC rfl ?_; apply Exists.intro; refine ⟨?_, ?_⟩
        ·rintro w ⟨r1, r2, r3, r4⟩; go_simp; try with_reducible rfl
        simp only [Act.put, List.setIfInBounds_toArray, List.set_cons_succ, List.set_cons_zero]
        refine Lim.stepR 7 (fun _ => trivial) rfl (by kernel_rfl) (fun _ _ _ _ h => h) hC rfl ?_; apply Exists.intro; refine ⟨?_, ?_⟩
        ·rintro w ⟨r1, r2, r3, r4⟩; go_simp; try with_reducible rfl
        simp only [Act.put, List.setIfInBounds_toArray, List.set_cons_succ, List.set_cons_zero]
        refine Lim.stepR 8 (fun _ => trivial) rfl (by kernel_rfl) (fun _ _ _ _ h => h) hC rfl ?_; apply Exists.intro; refine ⟨?_, ?_⟩
        ·rintro w ⟨r1, r2, r3, r4⟩; go_simp; try with_reducible rfl
        simp only [Act.put, List.setIfInBounds_toArray, List.set_cons_succ, List.set_cons_zero]
        refine Lim.stepE 9 (fun _ => trivial) rfl (by kernel_rfl) rfl (fun K hK => ?_)   -- E call
        go_simp
        refine ⟨rfl, (callsIn_wide.2 HOWN.out).mono ?_⟩
        rintro e w9 ⟨⟨p0, hp0, hrp, rfl⟩, hb9⟩
        have hC9 : (fun W => W.cell? ⟨q, 0, none⟩ = some (.int .i64 m.wd) ∧ W.cell? ⟨q, 1, none⟩ = some (.slice (some ⟨ob, oo, none⟩) m.n oc) ∧ W.cell? ⟨g2, rt, none⟩ = some (.int .i64 ra) ∧ W.cell? ⟨q9, 1, none⟩ = some (.slice (some ⟨g9, 0, none⟩) m.n c9)) w9 := ⟨hb9.on hC.1, hb9.on hC.2.1, hb9.on hC.2.2.1, hb9.on hC.2.2.2⟩
        have HR9 := Lib.hid (And.intro ((hI.out.1.on (Below.refl _ wr).drew).on hb9) (And.intro hp0 hrp))
        obtain ⟨o0, ho0⟩ : ∃ o0, o0 = m.own p0 := ⟨_, rfl⟩
        rw [← ho0]
        have HO0 := Lib.hid ho0
        have e1 := HR9.out.1.row.c t hlt
        have e2 := HR9.out.1.row.f t hlt
        clear hb9 hp0 hrp ho0
        refine hK _ _ hC9 ?_
        simp only [Act.put, List.setIfInBounds_toArray, List.set_cons_succ, List.set_cons_zero]
        refine Lim.stepR 10 (fun _ => trivial) rfl (by kernel_rfl) (fun _ _ _ _ h => h) hC9 rfl ?_; apply Exists.intro; refine ⟨?_, ?_⟩
        ·rintro w ⟨r1, r2, r3, r4⟩; go_simp; try with_reducible rfl
        simp only [Act.put, List.setIfInBounds_toArray, List.set_cons_succ, List.set_cons_zero]
        refine Lim.stepX 11 (fun _ => trivial) rfl (by kernel_rfl) rfl rfl (fun K hK => ?_)   -- E store
        go_simp
        refine hK _ _ ?_
        simp only [Act.put, List.setIfInBounds_toArray, List.set_cons_succ, List.set_cons_zero]
        refine Lim.segC (fun _ => True) [] ?_
        refine Lim.stepD (by kernel_rfl) ?_

        have HS : Hid (RgO w3 q9 g9 c9 m.wd m.n (upd O t o0) (w9.setCell ⟨g9, t, none⟩ (.int .i64 o0)) ∧ IsGiv m r (fun j => if j = rt then (ra : Int) else -1) (upd O t o0) (t + 1)) := Lib.hid ⟨HR9.out.1.set hlt o0, by rw [HO0.out]; exact hI.out.2.set HK.out.1 HR9.out.2.1 (by rw [HRT.out, if_pos rfl, HR9.out.2.2]) hlt⟩
        clear hC hC9
        go_wp2_with fail
        go_roundw
        case rel => exact ⟨t + 1, by omega, by go_num, _, HS⟩
        case measure => simp [intOf]; omega
       ·have h3 : (decide ((rt : Int) = i')) = false := by simp; omega
        have HS : Hid (IsGiv m r (fun j => if j = i' then (ra : Int) else -1) O (t + 1)) := Lib.hid (hI.out.2.skip (if_neg (by rw [← hrt]; exact h2)) hlt)
        clear hrt
        go_wp2_with fail
        go_roundw
        case rel => exact ⟨t + 1, by omega, by go_num, O, Lib.hid ⟨hI.out.1, HS.out⟩⟩
        case measure => simp [intOf]; omega
      ·obtain rfl : t = m.n := by omega
       have u2 := hI.out.1.be.on f2
       have u3 := hI.out.1.be.on f3
       have u4 := frozen_on hI.out.1.be f2 f4
       have u5 := frozen_on hI.out.1.be f3 f5
       have p0 := hI.out.1.c0
       have p1 := hI.out.1.c1
       go_wp2_with fail
       have hs : Sep (fun x => x = q4) wr ((wr.setCell ⟨q4, 0, none⟩ (.int .i64 m.wd)).setCell ⟨q4, 1, none⟩ (.slice (some ⟨g9, 0, none⟩) m.n c9)) := (Sep.set wr q4 0 _).trans (Sep.set _ q4 1 _)
       have r0 : ((wr.setCell ⟨q4, 0, none⟩ (.int .i64 m.wd)).setCell ⟨q4, 1, none⟩ (.slice (some ⟨g9, 0, none⟩) m.n c9)).cell? ⟨q4, 0, none⟩ = some (.int .i64 m.wd) := by rw [setCell_off _ _ (by omega)]; exact setCell_same _ _ u2
       have r1 : ((wr.setCell ⟨q4, 0, none⟩ (.int .i64 m.wd)).setCell ⟨q4, 1, none⟩ (.slice (some ⟨g9, 0, none⟩) m.n c9)).cell? ⟨q4, 1, none⟩ = some (.slice (some ⟨g9, 0, none⟩) m.n c9) := setCell_same _ _ (by rw [setCell_off _ _ (by omega)]; exact u3)
       refine bodyPost_ret (results_ct (fn := Try.f16) (p := 4) (u := 5) (ty := 28) rfl _ _ q4 _ rfl (rload_map r0 r1)) rfl ?_
       rw [← HMS.out] at HK HX
       have hq : q4 < w3.heap.size := World.block_lt_of_cell? _ _ f2
       have h1 := (HB3.out.trans (hI.out.1.be.mono HB3.out.size))
       have hlt := hI.out.1.lt
       have hqw : w.heap.size ≤ q4 := by have := HQ.out; omega
       exact ⟨h1.trans (hs.below h1.size (fun x hx => by rw [hx]; exact hqw)), .inr ⟨HE.out, r, k, HK.out.1, HK.out.2.1, .inr ⟨H1.out, ra, HX.out, .inr ⟨by omega, _, O, rfl, by rw [HMS.out]; exact hI.out.2, (hI.out.1.row.sep hs (by omega)).owns (by have := HB3.out.size; omega)⟩⟩⟩⟩

end Go.Proofs.Ytkjcnkkmhkcddaa
