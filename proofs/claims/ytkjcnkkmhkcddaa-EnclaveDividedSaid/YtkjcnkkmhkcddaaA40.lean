/-
  Parts of the proof, in the order in which they build: EwI.
-/
import Derived.Test.YtkjcnkkmhkcddaaA39
import Derived.Test.YtkjcnkkmhkcddaaA34
set_option linter.unusedVariables false
set_option linter.unusedSimpArgs false
namespace Go.Proofs.Ytkjcnkkmhkcddaa
open Go.RowKit Go.Shelf
open Lim

attribute [local go_sem] Oper.semAt_some

/-- whose the plots are that are met -/
def ownL (M : Nat → Bool) (n : Nat) : List Int := (List.range n).map fun k => if M k = true then 0 else 1
theorem ownL_add (M : Nat → Bool) (n : Nat) : ownL M (n + 1) = ownL M n ++ [if M n = true then 0 else 1] := by simp [ownL, List.range_succ]
theorem ownL_length (M : Nat → Bool) (n : Nat) : (ownL M n).length = n := by simp [ownL]
theorem ownL_getD (M : Nat → Bool) {n k : Nat} (hk : k < n) : (ownL M n).getD k 0 = if M k = true then 0 else 1 := by
  simp [ownL, List.getD_eq_getElem?_getD, List.getElem?_range hk]
/-- what Divide answers -/
def DivAns (wd : Int) (os es ss : List Int) (w : World) (e : Ending) (w' : World) : Prop :=
  Below w.heap.size w w' ∧ ((errL wd os es ss ≠ 0 ∧ e = .returned (.tuple #[.slice none 0 0, .int .i64 0, .int .i64 (errL wd os es ss)])) ∨
    (errL wd os es ss = 0 ∧ ∃ (M : Nat → Bool) (v : Value) (c : Int) (g : Nat → Nat → Int), e = .returned (.tuple #[v, .int .i64 c, .int .i64 0]) ∧ w'.ownsRow w.heap.size 3 1 v os.length (ints (ownL M os.length)) ∧
      Keeps os.length (fun k => os.getD k 0) (fun k => !M k) ∧ Flow os.length (fun k => os.getD k 0) (fun a b => (hsF os.length wd.toNat (fun k => es.getD k 0) (fun k => ss.getD k 0) a b).getD 0) g ∧ c = value os.length (fun k => os.getD k 0) g ∧
      c = cutOf os.length (fun a b => (hsF os.length wd.toNat (fun k => es.getD k 0) (fun k => ss.getD k 0) a b).getD 0) (fun k => !M k)))
set_option maxRecDepth 100000 in
set_option maxHeartbeats 4000000 in
theorem Divide_any {B : Nat} {wd : Int} {ov ev sv : Value} {os es ss : List Int} {w : World} (hl : os.length ≤ 100000 ∧ es.length ≤ 100000 ∧ ss.length ≤ 100000) (hB : B ≤ w.heap.size) (hv : RS B w ov os.length (ints os)) (he : RS B w ev es.length (ints es)) (hs : RS B w sv ss.length (ints ss)) :
    Calls Try.prog 24 #[.agg #[.int .i64 wd, ov, ev, sv]] w fun e w' => DivAns wd os es ss w e w' := by
  have hb0 : Below w.heap.size w (w.alloc (.cells #[.int .i64 wd, ov, ev, sv] 44)) := (Below.refl _ w).alloc (Nat.le_refl _) _
  have HC := Lib.hid (CheckLand_any (wd := wd) (w := w.alloc (.cells #[.int .i64 wd, ov, ev, sv] 44)) hl (Nat.le_trans hB hb0.size) (hv.below (hb0.mono hB)) (he.below (hb0.mono hB)) (hs.below (hb0.mono hB)))
  have HB0 := Lib.hid (And.intro hB hb0)
  have HV := Lib.hid (And.intro hv (And.intro he hs))
  obtain ⟨oa, oc, rfl, -⟩ := hv
  obtain ⟨ea, ec, rfl, -⟩ := he
  obtain ⟨sa, sc, rfl, -⟩ := hs
  have f0 : (w.alloc (.cells #[.int .i64 wd, .slice oa os.length oc, .slice ea es.length ec, .slice sa ss.length sc] 44)).cell? ⟨w.heap.size, 0, none⟩ = some (.int .i64 wd) := by simp [go_sem]
  have f1 : (w.alloc (.cells #[.int .i64 wd, .slice oa os.length oc, .slice ea es.length ec, .slice sa ss.length sc] 44)).cell? ⟨w.heap.size, 1, none⟩ = some (.slice oa os.length oc) := by simp [go_sem]
  have f2 : (w.alloc (.cells #[.int .i64 wd, .slice oa os.length oc, .slice ea es.length ec, .slice sa ss.length sc] 44)).cell? ⟨w.heap.size, 2, none⟩ = some (.slice ea es.length ec) := by simp [go_sem]
  have f3 : (w.alloc (.cells #[.int .i64 wd, .slice oa os.length oc, .slice ea es.length ec, .slice sa ss.length sc] 44)).cell? ⟨w.heap.size, 3, none⟩ = some (.slice sa ss.length sc) := by simp [go_sem]
  clear hl hB hb0
  go_enter Try.func24, Try.ntmps24
  go_wp2_with fail
  generalize w.alloc (.cells #[.int .i64 wd, .slice oa os.length oc, .slice ea es.length ec, .slice sa ss.length sc] 44) = w1 at HB0 HC f0 f1 f2 f3 ⊢
  refine HC.out.mono ?_
  rintro e w2 ⟨rfl, hb⟩
  replace f0 := hb.on f0
  replace f1 := hb.on f1
  replace f2 := hb.on f2
  replace f3 := hb.on f3
  have HB2 := Lib.hid (HB0.out.2.trans (hb.mono HB0.out.2.size))
  clear hb HC
  by_cases hr : errL wd os es ss = 0
  · have g1 : (errL wd os es ss != 0) = false := by simp [hr]
    have HR := Lib.hid hr
    obtain ⟨o1, o2, o3, o4, o5, o6, o7, -, -, -⟩ := errL_ok hr
    clear hr
    obtain ⟨wn, hwn⟩ : ∃ n : Nat, wd = n := ⟨wd.toNat, o2⟩
    subst hwn
    have o1' : Mp.Ok ⟨wn, os⟩ := o1
    rw [o3] at f2
    rw [o4] at f3
    have hBw : Below B w w2 := HB2.out.mono HB0.out.1
    have ho5 : ∀ k, k < (Mp.mk wn os).n → (Mp.mk wn os).own k = -1 ∨ (Mp.mk wn os).own k = 0 ∨ (Mp.mk wn os).own k = 1 := fun k hk => by
      have := o5 k hk
      show os.getD k 0 = -1 ∨ os.getD k 0 = 0 ∨ os.getD k 0 = 1
      omega
    have HF := Lib.hid (full_any (B := B) (m := ⟨wn, os⟩) (oa := oa) (ea := ea) (sa := sa) (oc := oc) (ec := ec) (sc := sc) (es := es) (ss := ss) (E := fun k => es.getD k 0) (S := fun k => ss.getD k 0) (w := w2) o1' (Nat.le_trans HB0.out.1 HB2.out.size) (HV.out.1.below hBw) (by have h := HV.out.2.1.below hBw; rw [o3] at h ⊢; exact h) (by have h := HV.out.2.2.below hBw; rw [o4] at h ⊢; exact h) o3 o4 (fun _ => rfl) (fun _ => rfl) o6 o7 ho5)
    have HK := Lib.hid (And.intro o1' (And.intro o3 (And.intro o4 (And.intro o6 (And.intro o7 ho5)))))
    clear o1 o1' o2 o3 o4 o5 o6 o7 hBw ho5
    go_wp2_with fail
    refine HF.out.mono ?_
    rintro e w3 ⟨hb3, bf, bm, c, M, Fr, R, g, rk, t, rfl, hbf, hbm, hfl, hfull, hD⟩
    replace f0 := hb3.on f0
    replace f1 := hb3.on f1
    replace f2 := hb3.on f2
    replace f3 := hb3.on f3
    have HB3 := Lib.hid (HB2.out.trans (hb3.mono HB2.out.size))
    have HDN := Lib.hid (hfull.done (fun a b h => hsF_nb HK.out.1 h) hD HK.out.2.2.2.2.2)
    have HFL := Lib.hid (And.intro hfl hfull.fl)
    have hn : os.length ≤ 100 := HK.out.1.n1
    obtain ⟨i0, hi, hz0, hz1, hz2⟩ := info_parts Try.infoInt
    have HI := Lib.hid (And.intro hi (And.intro hz0 (And.intro hz1 hz2)))
    clear hb3 hfl hfull hD HF hbf hbm hi hz0 hz1 hz2
    go_wp2_with fail
    go_loopw [7, 20] (fun v iv wr => ∃ k : Nat, k ≤ os.length ∧ iv = .int .i64 k ∧ Hid (Below w3.heap.size w3 wr ∧ wr.ownsRow w3.heap.size 3 1 v k (ints (ownL M k)) ∧ k ≤ 100)) (fun _ iv _ => os.length - (intOf iv).toNat)
    case atStart => exact ⟨0, Nat.zero_le _, rfl, Lib.hid ⟨Below.refl _ _, World.ownsRow_nil _ _ _ _, by omega⟩⟩
    case round =>
      obtain ⟨k, hk, rfl, hP⟩ := hrel
      by_cases hlt : k < os.length
      · have hlt64 : (k : Int) < os.length := by omega
        have hk100 : (k : Int) < 100 := by omega
        obtain ⟨mu, hmu⟩ : ∃ mu, mu = M k := ⟨_, rfl⟩
        have e1 : wr.cell? ⟨bf, 5 + k, none⟩ = some (.bool mu) := by rw [hmu]; exact hP.out.1.on (HFL.out.1.met k (by omega)).1
        have HMU := Lib.hid hmu
        clear hmu
        cases mu with
        | true =>
          go_wp2_with (at_builtin; refine wpList_append_own _ rfl _ _ 22 rfl w3.heap.size 3 i0 (.int .i64 0) 1 8 Try.underlying22 HI.out.1 HI.out.2.1 HI.out.2.2.1 HI.out.2.2.2 rfl (by decide) _ _ _ rfl (hP.out.2.1.alloc _) ⟨wr.heap.size, 0, none⟩ 1 1 [.int .i64 0] rfl rfl (cell_one_new _ _ _) (by simp [Value.oneCell']) (by have := hP.out.2.2; unfold maxLen; omega) (by have := hP.out.2.2; omega) (by have := hP.out.1.size; simp; omega) ?_; intro v7 w7 hown7 hgrow _; have hb7 : Below w3.heap.size w3 w7 := (hP.out.1.trans (((Below.refl _ wr).alloc (Nat.le_refl _) _).mono hP.out.1.size)).grown hgrow (Nat.le_trans hP.out.1.size (by simp)) (fun x hx => by { have := (hP.out.2.1.lt x hx).1; omega }); have HW7 := Lib.hid (And.intro hb7 hown7); clear hown7 hgrow hb7)
          go_roundw
          case rel =>
            refine ⟨k + 1, by omega, by go_num, Lib.hid ⟨HW7.out.1, ?_, by omega⟩⟩
            rw [ownL_add, ← HMU.out]
            have := HW7.out.2
            simpa [ints] using this
          case measure => simp [intOf]; omega
        | false =>
          go_wp2_with (at_builtin; refine wpList_append_own _ rfl _ _ 22 rfl w3.heap.size 3 i0 (.int .i64 0) 1 8 Try.underlying22 HI.out.1 HI.out.2.1 HI.out.2.2.1 HI.out.2.2.2 rfl (by decide) _ _ _ rfl (hP.out.2.1.alloc _) ⟨wr.heap.size, 0, none⟩ 1 1 [.int .i64 1] rfl rfl (cell_one_new _ _ _) (by simp [Value.oneCell']) (by have := hP.out.2.2; unfold maxLen; omega) (by have := hP.out.2.2; omega) (by have := hP.out.1.size; simp; omega) ?_; intro v7 w7 hown7 hgrow _; have hb7 : Below w3.heap.size w3 w7 := (hP.out.1.trans (((Below.refl _ wr).alloc (Nat.le_refl _) _).mono hP.out.1.size)).grown hgrow (Nat.le_trans hP.out.1.size (by simp)) (fun x hx => by { have := (hP.out.2.1.lt x hx).1; omega }); have HW7 := Lib.hid (And.intro hb7 hown7); clear hown7 hgrow hb7)
          go_roundw
          case rel =>
            refine ⟨k + 1, by omega, by go_num, Lib.hid ⟨HW7.out.1, ?_, by omega⟩⟩
            rw [ownL_add, ← HMU.out]
            have := HW7.out.2
            simpa [ints] using this
          case measure => simp [intOf]; omega
      · obtain rfl : k = os.length := by omega
        have a0 := hP.out.1.on f0
        have a1 := hP.out.1.on f1
        have a2 := hP.out.1.on f2
        have a3 := hP.out.1.on f3
        have hbr : Below B w wr := (HB3.out.trans (hP.out.1.mono HB3.out.size)).mono HB0.out.1
        have HCU := Lib.hid (cuts_any (B := wr.heap.size) (n := os.length) (wd := wn) (ov := .slice oa os.length oc) (ev := .slice ea os.length ec) (sv := .slice sa os.length sc) (es := es) (ss := ss) (ws := ownL M os.length) (E := fun k => es.getD k 0) (S := fun k => ss.getD k 0) (o := fun k => (ownL M os.length).getD k 0) (w := wr) (Nat.le_refl _)
          (by have h := (HV.out.2.1.below hbr).mono (Nat.le_trans HB0.out.1 (HB3.out.trans (hP.out.1.mono HB3.out.size)).size); rw [HK.out.2.1] at h ⊢; exact h) (by have h := (HV.out.2.2.below hbr).mono (Nat.le_trans HB0.out.1 (HB3.out.trans (hP.out.1.mono HB3.out.size)).size); rw [HK.out.2.2.1] at h ⊢; exact h) (by rw [ownL_length]; exact RS.of_owns hP.out.2.1)
          HK.out.2.1 HK.out.2.2.1 (ownL_length M _) hn HK.out.1.w0 HK.out.1.dv HK.out.1.wn (fun _ => rfl) (fun _ => rfl) (fun _ => rfl) HK.out.2.2.2.1 HK.out.2.2.2.2.1)
        clear hbr
        go_wp2_with fail
        refine HCU.out.mono ?_
        rintro e w9 ⟨rfl, hb9⟩
        have H9 := Lib.hid hb9
        clear hb9
        go_wp2_with fail
        go_ret3
        have hcut := cutL_cut (n := os.length) (wd := wn) (o := fun k => (ownL M os.length).getD k 0) (E := fun k => es.getD k 0) (S := fun k => ss.getD k 0) (D := fun k => !M k) HK.out.1.w0 HK.out.1.dv (fun a b ha hb => by
          show (ownL M os.length).getD a 0 = (ownL M os.length).getD b 0 ↔ (!M a) = (!M b)
          rw [ownL_getD M ha, ownL_getD M hb]
          cases M a <;> cases M b <;> simp)
        have hbw := HB3.out.trans ((hP.out.1.trans (H9.out.mono hP.out.1.size)).mono HB3.out.size)
        exact ⟨hbw, .inr ⟨HR.out, M, _, (cutL os.length wn (fun k => (ownL M os.length).getD k 0) (fun k => es.getD k 0) (fun k => ss.getD k 0) os.length).sum, g, rfl, owns_mono (owns_below hP.out.2.1 H9.out) HB3.out.size, HDN.out.1, HFL.out.2, hcut.trans HDN.out.2.symm, hcut⟩⟩
  · have g1 : (errL wd os es ss != 0) = true := by simpa using hr
    have HR := Lib.hid hr
    obtain ⟨er, her⟩ : ∃ er, er = errL wd os es ss := ⟨_, rfl⟩
    rw [← her] at g1 ⊢
    have HER := Lib.hid her
    clear hr her
    go_wp2_with fail
    go_ret3
    exact ⟨HB2.out, .inl ⟨HR.out, by rw [← HER.out]; rfl⟩⟩
end Go.Proofs.Ytkjcnkkmhkcddaa
