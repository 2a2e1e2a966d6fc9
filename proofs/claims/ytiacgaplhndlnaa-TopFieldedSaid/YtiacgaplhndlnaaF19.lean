/-
  Parts of the proof, in the order in which they build: EvK.
-/
import Derived.Test.YtiacgaplhndlnaaF18
set_option linter.unusedVariables false
set_option linter.unusedSimpArgs false
namespace Go.Proofs.Ytiacgaplhndlnaa
open Go.RowKit Go.Shelf
open Lim


theorem RowC.owns {W : World} {g n : Nat} {R : Nat → Int} (h : RowC W g n R) {base : Nat} (hb : base ≤ g) (hn : n ≤ 1000) : W.ownsRow base 3 1 (.slice (some ⟨g, 0, none⟩) n n) n (ints ((List.range n).map R)) := by
  obtain ⟨cur, h1, h2⟩ := h.o
  refine ⟨by simp [ints], .inr ⟨g, n, cur, rfl, hb, h1, Nat.le_refl _, by unfold maxLen; omega, by omega, ?_⟩⟩
  refine List.ext_getElem? (fun j => ?_)
  rw [List.getElem?_take]
  by_cases hj : j < n
  · rw [if_pos (by omega)]
    have hc := h.c j hj
    have hc : cur[j]? = some (.int .i64 (R j)) := by simpa [World.cell?, h1] using hc
    simp [ints, hj]
    simpa using hc
  · rw [if_neg (by omega), List.getElem?_eq_none (by simp [ints]; omega)]
/-- the numbers of the regions of n plots -/
def regL (r : Nat → Nat) (n : Nat) : List Int := (List.range n).map (fun p => (r p : Int))
noncomputable def depL (m : Mp) (r : Nat → Nat) (k : Nat) : List Int := (List.range k).map (fun i => (inCount m r i k : Int))
def RegAns (wd : Int) (os : List Int) (w : World) (e : Ending) (w' : World) : Prop :=
  Below w.heap.size w w' ∧ ((errE wd os = 0 ∧ ∃ (v : Value) (r : Nat → Nat) (k : Nat), e = .returned (.tuple #[v, .int .i64 0]) ∧ IsReg ⟨wd.toNat, os⟩ r ∧ IsMany ⟨wd.toNat, os⟩ r k ∧ w'.ownsRow w.heap.size 3 1 v os.length (ints (regL r os.length))) ∨
    (errE wd os ≠ 0 ∧ e = .returned (.tuple #[.slice none 0 0, .int .i64 (errE wd os)])))
def DepAns (wd : Int) (os : List Int) (w : World) (e : Ending) (w' : World) : Prop :=
  Below w.heap.size w w' ∧ ((errE wd os = 0 ∧ ∃ (v : Value) (r : Nat → Nat) (k : Nat), e = .returned (.tuple #[v, .int .i64 0]) ∧ IsReg ⟨wd.toNat, os⟩ r ∧ IsMany ⟨wd.toNat, os⟩ r k ∧ w'.ownsRow w.heap.size 3 1 v k (ints (depL ⟨wd.toNat, os⟩ r k))) ∨
    (errE wd os ≠ 0 ∧ e = .returned (.tuple #[.slice none 0 0, .int .i64 (errE wd os)])))
def ArAns (wd : Int) (os : List Int) (w : World) (e : Ending) (w' : World) : Prop :=
  Below w.heap.size w w' ∧ ((errE wd os = 0 ∧ ∃ (v : Value) (r : Nat → Nat) (k : Nat), e = .returned (.tuple #[v, .int .i64 0]) ∧ IsReg ⟨wd.toNat, os⟩ r ∧ IsMany ⟨wd.toNat, os⟩ r k ∧ ∃ A : Nat → Int, (∀ i, i < k → IsAr ⟨wd.toNat, os⟩ r i k (A i)) ∧ w'.ownsRow w.heap.size 3 1 v k (ints ((List.range k).map A))) ∨
    (errE wd os ≠ 0 ∧ e = .returned (.tuple #[.slice none 0 0, .int .i64 (errE wd os)])))
set_option maxRecDepth 20000 in
set_option maxHeartbeats 1000000 in
theorem Regions_any {B : Nat} {wd : Int} {ov : Value} {os : List Int} {w : World} (hl : os.length ≤ 100000) (hB : B ≤ w.heap.size) (hv : RS B w ov os.length (ints os)) :
    Calls Try.prog 25 #[.agg #[.int .i64 wd, ov]] w fun e w' => RegAns wd os w e w' := by
  have HB0 : Hid (Below w.heap.size w (w.alloc (.cells #[.int .i64 wd, ov] 25))) := Lib.hid ((Below.refl _ w).alloc (Nat.le_refl _) _)
  have HO := Lib.hid (opened_any (w := w.alloc (.cells #[.int .i64 wd, ov] 25)) (wd := wd) hl (by simp; omega) (hv.below (HB0.out.mono hB)))
  have hsz : w.heap.size + 1 = (w.alloc (.cells #[.int .i64 wd, ov] 25)).heap.size := by simp
  have HS := Lib.hid (And.intro hsz hB)
  have f0 : (w.alloc (.cells #[.int .i64 wd, ov] 25)).cell? ⟨w.heap.size, 0, none⟩ = some (.int .i64 wd) := by simp [go_sem]
  have f1 : (w.alloc (.cells #[.int .i64 wd, ov] 25)).cell? ⟨w.heap.size, 1, none⟩ = some ov := by simp [go_sem]
  obtain ⟨oa, oc, rfl, -⟩ := hv
  clear hl hB hsz
  go_enter Try.func25, Try.ntmps25
  go_wp2_with fail
  generalize w.alloc (.cells #[.int .i64 wd, .slice oa os.length oc] 25) = w0 at HB0 HO HS f0 f1 ⊢
  refine HO.out.mono ?_
  clear HO f0 f1
  rintro e w1 ⟨hb, h⟩
  have HB1 : Hid (Below w.heap.size w w1 ∧ w.heap.size < w1.heap.size) := Lib.hid ⟨HB0.out.trans (hb.mono HB0.out.size), by have := hb.size; have := HS.out.1; omega⟩
  have HBs := Lib.hid hb.size
  clear hb
  rcases h with ⟨he, b, g, r, k, rfl, hlt, hw, hr, hk⟩ | ⟨he, rfl⟩
  · have HOK : Hid (Mp.Ok ⟨wd.toNat, os⟩ ∧ os.length ≤ 100) := Lib.hid (by
      have h := (countB_ok (wd := wd) (os := os) (by unfold errE at he; cases hc : countB wd os.length with
        | true => rfl
        | false => rw [hc] at he; cases he)).1
      exact ⟨h, h.n1⟩)
    have HE := Lib.hid he
    have HW := Lib.hid (And.intro hlt (And.intro hr hk))
    have HWK := Lib.hid hw
    have c2 := hw.c2
    have hos : (⟨wd.toNat, os⟩ : Mp).n = os.length := rfl
    simp only [hos] at c2
    clear hos he hlt hr hk hw
    go_wp2_with fail
    go_ret2
    exact ⟨HB1.out.1, .inl ⟨HE.out, _, r, k, rfl, HW.out.2.1, HW.out.2.2, HWK.out.row.owns (by have := HW.out.1; have := HS.out; omega) (by have := HOK.out.2; show os.length ≤ 1000; omega)⟩⟩
  · have g1 : (errE wd os != 0) = true := by simpa using he
    have HE := Lib.hid he
    obtain ⟨er, her⟩ : ∃ er, er = errE wd os := ⟨_, rfl⟩
    rw [← her] at g1 ⊢
    have HER := Lib.hid her
    clear he her
    go_wp2_with fail
    go_ret2
    exact ⟨HB1.out.1, .inr ⟨HE.out, by rw [← HER.out]; rfl⟩⟩
set_option maxRecDepth 20000 in
set_option maxHeartbeats 1000000 in
theorem Depths_any {B : Nat} {wd : Int} {ov : Value} {os : List Int} {w : World} (hl : os.length ≤ 100000) (hB : B ≤ w.heap.size) (hv : RS B w ov os.length (ints os)) :
    Calls Try.prog 10 #[.agg #[.int .i64 wd, ov]] w fun e w' => DepAns wd os w e w' := by
  have HB0 : Hid (Below w.heap.size w (w.alloc (.cells #[.int .i64 wd, ov] 25))) := Lib.hid ((Below.refl _ w).alloc (Nat.le_refl _) _)
  have HO := Lib.hid (opened_any (w := w.alloc (.cells #[.int .i64 wd, ov] 25)) (wd := wd) hl (by simp; omega) (hv.below (HB0.out.mono hB)))
  have hsz : w.heap.size + 1 = (w.alloc (.cells #[.int .i64 wd, ov] 25)).heap.size := by simp
  have HS := Lib.hid (And.intro hsz hB)
  have f0 : (w.alloc (.cells #[.int .i64 wd, ov] 25)).cell? ⟨w.heap.size, 0, none⟩ = some (.int .i64 wd) := by simp [go_sem]
  have f1 : (w.alloc (.cells #[.int .i64 wd, ov] 25)).cell? ⟨w.heap.size, 1, none⟩ = some ov := by simp [go_sem]
  obtain ⟨oa, oc, rfl, -⟩ := hv
  clear hl hB hsz
  go_enter Try.func10, Try.ntmps10
  go_wp2_with fail
  generalize w.alloc (.cells #[.int .i64 wd, .slice oa os.length oc] 25) = w0 at HB0 HO HS f0 f1 ⊢
  refine HO.out.mono ?_
  clear HO f0 f1
  rintro e w1 ⟨hb, h⟩
  have HB1 : Hid (Below w.heap.size w w1 ∧ w.heap.size < w1.heap.size) := Lib.hid ⟨HB0.out.trans (hb.mono HB0.out.size), by have := hb.size; have := HS.out.1; omega⟩
  have HBs := Lib.hid hb.size
  clear hb
  rcases h with ⟨he, b, g, r, k, rfl, hlt, hw, hr, hk⟩ | ⟨he, rfl⟩
  · have HOK : Hid (Mp.Ok ⟨wd.toNat, os⟩ ∧ os.length ≤ 100) := Lib.hid (by
      have h := (countB_ok (wd := wd) (os := os) (by unfold errE at he; cases hc : countB wd os.length with
        | true => rfl
        | false => rw [hc] at he; cases he)).1
      exact ⟨h, h.n1⟩)
    have HE := Lib.hid he
    have HW := Lib.hid (And.intro hlt (And.intro hr hk))
    have HWK := Lib.hid hw
    have c2 := hw.c2
    have hos : (⟨wd.toNat, os⟩ : Mp).n = os.length := rfl
    simp only [hos] at c2
    clear hos he hlt hr hk hw
    go_wp2_with fail
    refine (around_any HOK.out.1 HW.out.2.1 HW.out.2.2 HWK.out).mono ?_
    rintro e w2 ⟨g1, g2, A, rfl, hM, hA⟩
    have HM := Lib.hid (And.intro hM hA)
    clear hM hA c2
    go_wp2_with fail
    go_ret2
    have hk := HW.out.2.2.le
    have hbb : Below w.heap.size w1 w2 := ⟨HM.out.1.gb.os, HM.out.1.gb.tape, HM.out.1.gb.output, HM.out.1.gb.size, fun x hx => HM.out.1.gb.block x (by have := HB1.out.2; omega) (fun e => by cases e; have := HW.out.1; have := HS.out; omega)⟩
    exact ⟨HB1.out.1.trans hbb, .inl ⟨HE.out, _, r, k, rfl, HW.out.2.1, HW.out.2.2, HM.out.1.d.owns (by have := HM.out.1.lt; have := HB1.out.2; omega) (by have := HOK.out.2; have : k ≤ os.length := hk; omega)⟩⟩
  · have g1 : (errE wd os != 0) = true := by simpa using he
    have HE := Lib.hid he
    obtain ⟨er, her⟩ : ∃ er, er = errE wd os := ⟨_, rfl⟩
    rw [← her] at g1 ⊢
    have HER := Lib.hid her
    clear he her
    go_wp2_with fail
    go_ret2
    exact ⟨HB1.out.1, .inr ⟨HE.out, by rw [← HER.out]; rfl⟩⟩
set_option maxRecDepth 20000 in
set_option maxHeartbeats 1000000 in
theorem Around_any {B : Nat} {wd : Int} {ov : Value} {os : List Int} {w : World} (hl : os.length ≤ 100000) (hB : B ≤ w.heap.size) (hv : RS B w ov os.length (ints os)) :
    Calls Try.prog 9 #[.agg #[.int .i64 wd, ov]] w fun e w' => ArAns wd os w e w' := by
  have HB0 : Hid (Below w.heap.size w (w.alloc (.cells #[.int .i64 wd, ov] 25))) := Lib.hid ((Below.refl _ w).alloc (Nat.le_refl _) _)
  have HO := Lib.hid (opened_any (w := w.alloc (.cells #[.int .i64 wd, ov] 25)) (wd := wd) hl (by simp; omega) (hv.below (HB0.out.mono hB)))
  have hsz : w.heap.size + 1 = (w.alloc (.cells #[.int .i64 wd, ov] 25)).heap.size := by simp
  have HS := Lib.hid (And.intro hsz hB)
  have f0 : (w.alloc (.cells #[.int .i64 wd, ov] 25)).cell? ⟨w.heap.size, 0, none⟩ = some (.int .i64 wd) := by simp [go_sem]
  have f1 : (w.alloc (.cells #[.int .i64 wd, ov] 25)).cell? ⟨w.heap.size, 1, none⟩ = some ov := by simp [go_sem]
  obtain ⟨oa, oc, rfl, -⟩ := hv
  clear hl hB hsz
  go_enter Try.func9, Try.ntmps9
  go_wp2_with fail
  generalize w.alloc (.cells #[.int .i64 wd, .slice oa os.length oc] 25) = w0 at HB0 HO HS f0 f1 ⊢
  refine HO.out.mono ?_
  clear HO f0 f1
  rintro e w1 ⟨hb, h⟩
  have HB1 : Hid (Below w.heap.size w w1 ∧ w.heap.size < w1.heap.size) := Lib.hid ⟨HB0.out.trans (hb.mono HB0.out.size), by have := hb.size; have := HS.out.1; omega⟩
  have HBs := Lib.hid hb.size
  clear hb
  rcases h with ⟨he, b, g, r, k, rfl, hlt, hw, hr, hk⟩ | ⟨he, rfl⟩
  · have HOK : Hid (Mp.Ok ⟨wd.toNat, os⟩ ∧ os.length ≤ 100) := Lib.hid (by
      have h := (countB_ok (wd := wd) (os := os) (by unfold errE at he; cases hc : countB wd os.length with
        | true => rfl
        | false => rw [hc] at he; cases he)).1
      exact ⟨h, h.n1⟩)
    have HE := Lib.hid he
    have HW := Lib.hid (And.intro hlt (And.intro hr hk))
    have HWK := Lib.hid hw
    have c2 := hw.c2
    have hos : (⟨wd.toNat, os⟩ : Mp).n = os.length := rfl
    simp only [hos] at c2
    clear hos he hlt hr hk hw
    go_wp2_with fail
    refine (around_any HOK.out.1 HW.out.2.1 HW.out.2.2 HWK.out).mono ?_
    rintro e w2 ⟨g1, g2, A, rfl, hM, hA⟩
    have HM := Lib.hid (And.intro hM hA)
    clear hM hA c2
    go_wp2_with fail
    go_ret2
    have hk := HW.out.2.2.le
    have hbb : Below w.heap.size w1 w2 := ⟨HM.out.1.gb.os, HM.out.1.gb.tape, HM.out.1.gb.output, HM.out.1.gb.size, fun x hx => HM.out.1.gb.block x (by have := HB1.out.2; omega) (fun e => by cases e; have := HW.out.1; have := HS.out; omega)⟩
    exact ⟨HB1.out.1.trans hbb, .inl ⟨HE.out, _, r, k, rfl, HW.out.2.1, HW.out.2.2, A, HM.out.2, HM.out.1.a.owns (by have := HM.out.1.lt; have := HB1.out.2; omega) (by have := HOK.out.2; have : k ≤ os.length := hk; omega)⟩⟩
  · have g1 : (errE wd os != 0) = true := by simpa using he
    have HE := Lib.hid he
    obtain ⟨er, her⟩ : ∃ er, er = errE wd os := ⟨_, rfl⟩
    rw [← her] at g1 ⊢
    have HER := Lib.hid her
    clear he her
    go_wp2_with fail
    go_ret2
    exact ⟨HB1.out.1, .inr ⟨HE.out, by rw [← HER.out]; rfl⟩⟩
end Go.Proofs.Ytiacgaplhndlnaa
