/-
  Parts of the proof, in the order in which they build: EvB.
-/
import Derived.RangeFuncNested
import Derived.RangeFuncBound
import Derived.RangeFuncCalls
import Derived.RangeFuncLeaves
import Derived.Shelf.Abstract
import Derived.WalkKit
import Derived.IntWalk
import Derived.Lib.Hide
import Derived.OwnWalkIn
import Derived.TacticsInMore
import Derived.LoopNIn
import Derived.LoopIn
import Derived.WalkSpells
import Derived.WalkLawsBesides
import Derived.Test.YtiacgaplhndlnaaRows
import Derived.Test.YtiacgaplhndlnaaF1
import Derived.Test.YtiacgaplhndlnaaF3
import Derived.Test.YtiacgaplhndlnaaF4
set_option linter.unusedVariables false
set_option linter.unusedSimpArgs false
namespace Go.Proofs.Ytiacgaplhndlnaa
open Go.RowKit Go.Shelf
open Lim
attribute [local go_sem] Oper.semAt_some

/-- the cells that the iterator reads: bw has the map, bc the plot -/
def Ne (bw bc wd N cap c : Nat) (ha : Option Addr) (w : World) : Prop :=
  w.cell? ⟨bw, 0, none⟩ = some (.int .i64 wd) ∧ w.cell? ⟨bw, 1, none⟩ = some (.slice ha N cap) ∧ w.cell? ⟨bc, 0, none⟩ = some (.int .i64 c)
theorem Ne.drew {bw bc wd N cap c : Nat} {ha : Option Addr} {w : World} (h : Ne bw bc wd N cap c ha w) : Ne bw bc wd N cap c ha w.drew := h
theorem npf0 {wd N c col : Nat} (h : wd ≤ c) : [] ++ [(c : Int) - wd] <+: nbrK wd N c col := ⟨nA col c ++ nB wd col c ++ nD wd N c, by simp [nbrK, nC, h]⟩
theorem npf1 {wd N c col : Nat} (h : 0 < col) : nC wd c ++ [(c : Int) - 1] <+: nbrK wd N c col := ⟨nB wd col c ++ nD wd N c, by simp [nbrK, nA, h]⟩
theorem npf2 {wd N c col : Nat} (h : col + 1 < wd) : nC wd c ++ nA col c ++ [(c : Int) + 1] <+: nbrK wd N c col := ⟨nD wd N c, by simp [nbrK, nB, h]⟩
theorem npf3 {wd N c col : Nat} (h : c + wd < N) : nC wd c ++ nA col c ++ nB wd col c ++ [(c : Int) + wd] <+: nbrK wd N c col := ⟨[], by simp [nbrK, nD, h]⟩
set_option maxRecDepth 100000 in
set_option maxHeartbeats 10000000 in
theorem nbr1_col (F : Fence) (n : Nat) (hF : ∀ f, F.fn f) (hd : F.depth = none) (hro : F.round = none) (l bw bc wd N c col cap : Nat) (hcol : Hid (col = c % wd)) (ha : Option Addr) (J Jx : List Int → World → Prop)
    (hY : ∀ pre x W, J pre W → pre ++ [x] <+: nbrK wd N c col → YieldAt F (n - 1) Try.prog l #[.int .i64 x] W fun e W' =>
      (e = .returned (.bool true) ∧ J (pre ++ [x]) W' ∧ (Ne bw bc wd N cap c ha W → Ne bw bc wd N cap c ha W')) ∨ (e = .returned (.bool false) ∧ Jx (pre ++ [x]) W'))
    (hJd : ∀ pre W, J pre W → J pre W.drew)
    (W : World) (hw0 : 0 < wd) (hwd : wd ≤ 100) (hN : N ≤ 100) (hc : c < 100)
    (hC0 : Ne bw bc wd N cap c ha W) (h0 : J [] W) :
    CallsIn F n Try.prog 132 #[.func (.yield l) #[] #[], .pointer (some ⟨bc, 0, none⟩), .pointer (some ⟨bw, 0, none⟩)] W fun e W' => (∃ v, e = .returned v) ∧
      ((∃ ys, ys = nbrK wd N c col ∧ J ys W') ∨ (∃ pre, pre <+: nbrK wd N c col ∧ Jx pre W')) := by
  have hwne : ¬ wd = 0 := by omega
  have hcl : col < wd := by have := Nat.mod_lt c hw0; rw [hcol.out]; exact this
  have hcc : col ≤ c := by rw [hcol.out]; exact Nat.mod_le _ _
  have e5 : (c : Int).tmod (wd : Int) = (col : Int) := by rw [hcol.out]; exact (Int.ofNat_tmod c wd).symm
  refine callsIn_of_wp Try.func132 rfl (hF _) ?_ hro
  simp only [Try.ntmps132, List.size_toArray, List.length_cons, List.length_nil, Nat.reduceAdd, Nat.reduceSub, Array.replicate_succ, Array.replicate_zero, List.push_toArray, List.append_toArray, List.nil_append, List.cons_append]
  have HC0 := Lib.hid hC0
  have hJ0 := Lib.hid h0
  have HY := Lib.hid hY
  have e0 : nbrK wd N c col = nC wd c ++ nA col c ++ nB wd col c ++ nD wd N c := rfl
  have HN := Lib.hid e0
  clear e0 hY hJd h0 hC0
  have hx0 : wd ≤ c → IntKind.i64.wrap ((c : Int) - wd) = (c : Int) - wd := fun _ => IntWalk.i64_in _ (by omega)
  have hx1 : IntKind.i64.wrap ((c : Int) - 1) = (c : Int) - 1 := IntWalk.i64_in _ (by omega)
  have hx2 : IntKind.i64.wrap ((c : Int) + 1) = (c : Int) + 1 := IntWalk.i64_in _ (by omega)
  have hx3 : IntKind.i64.wrap ((c : Int) + wd) = (c : Int) + wd := IntWalk.i64_in _ (by omega)
  have hx4 : IntKind.i64.wrap ((col : Int) + 1) = (col : Int) + 1 := IntWalk.i64_in _ (by omega)
  have hx0 : IntKind.i64.wrap ((c : Int) - wd) = (c : Int) - wd := IntWalk.i64_in _ (by omega)
  by_cases hg0 : wd ≤ c
  · have hf0 : decide ((wd : Int) ≤ (c : Int)) = true := by simp; omega
    obtain ⟨r1, r2, r3⟩ := HC0.out
    obtain ⟨fn, tmps, assign, body, hy, hR⟩ := HY.out [] ((c : Int) - wd) _ hJ0.out (npf0 hg0)
    have HR := Lib.hid (And.intro hy hR)
    clear hy hR
    gi_wp2_with fail
    rw [HR.out.1]
    simp only [Oper.uponIn]
    refine ⟨fun h => (by rw [hd] at h; cases h), HR.out.2.mono ?_⟩
    rintro e W1 (⟨rfl, hj, hb⟩ | ⟨rfl, hjx⟩)
    · have HC1 := Lib.hid (hb HC0.out)
      have hJ1 : Hid (J (nC wd c) W1) := Lib.hid (by simpa [nC, hg0] using hj)
      clear hj hb HR r1 r2 r3
      by_cases hg1 : 0 < col
      · have hf1 : decide ((0 : Int) < (col : Int)) = true := by simp; omega
        obtain ⟨r1, r2, r3⟩ := HC1.out
        obtain ⟨fn, tmps, assign, body, hy, hR⟩ := HY.out (nC wd c) ((c : Int) - 1) _ hJ1.out (npf1 hg1)
        have HR := Lib.hid (And.intro hy hR)
        clear hy hR
        gi_wp2_with fail
        rw [HR.out.1]
        simp only [Oper.uponIn]
        refine ⟨fun h => (by rw [hd] at h; cases h), HR.out.2.mono ?_⟩
        rintro e W2 (⟨rfl, hj, hb⟩ | ⟨rfl, hjx⟩)
        · have HC2 := Lib.hid (hb HC1.out)
          have hJ2 : Hid (J (nC wd c ++ nA col c) W2) := Lib.hid (by simpa [nA, hg1] using hj)
          clear hj hb HR r1 r2 r3
          by_cases hg2 : col + 1 < wd
          · have hf2 : decide ((col : Int) + 1 < (wd : Int)) = true := by simp; omega
            obtain ⟨r1, r2, r3⟩ := HC2.out
            obtain ⟨fn, tmps, assign, body, hy, hR⟩ := HY.out (nC wd c ++ nA col c) ((c : Int) + 1) _ hJ2.out (npf2 hg2)
            have HR := Lib.hid (And.intro hy hR)
            clear hy hR
            gi_wp2_with fail
            rw [HR.out.1]
            simp only [Oper.uponIn]
            refine ⟨fun h => (by rw [hd] at h; cases h), HR.out.2.mono ?_⟩
            rintro e W3 (⟨rfl, hj, hb⟩ | ⟨rfl, hjx⟩)
            · have HC3 := Lib.hid (hb HC2.out)
              have hJ3 : Hid (J (nC wd c ++ nA col c ++ nB wd col c) W3) := Lib.hid (by simpa [nB, hg2] using hj)
              clear hj hb HR r1 r2 r3
              by_cases hg3 : c + wd < N
              · have hf3 : decide ((c : Int) + wd < N) = true := by simp; omega
                obtain ⟨r1, r2, r3⟩ := HC3.out
                obtain ⟨fn, tmps, assign, body, hy, hR⟩ := HY.out (nC wd c ++ nA col c ++ nB wd col c) ((c : Int) + wd) _ hJ3.out (npf3 hg3)
                have HR := Lib.hid (And.intro hy hR)
                clear hy hR
                gi_wp2_with fail
                rw [HR.out.1]
                simp only [Oper.uponIn]
                refine ⟨fun h => (by rw [hd] at h; cases h), HR.out.2.mono ?_⟩
                rintro e W4 (⟨rfl, hj, hb⟩ | ⟨rfl, hjx⟩)
                · have HC4 := Lib.hid (hb HC3.out)
                  have hJ4 : Hid (J (nC wd c ++ nA col c ++ nB wd col c ++ nD wd N c) W4) := Lib.hid (by simpa [nD, hg3] using hj)
                  clear hj hb HR r1 r2 r3
                  gi_wp2
                  refine bodyPost_end (results_none rfl _ _ _) rfl ?_
                  exact ⟨⟨_, rfl⟩, .inl ⟨_, rfl, hJ4.out⟩⟩
                · have HX := Lib.hid hjx
                  clear hjx HR r1 r2 r3
                  gi_wp2
                  all_goals first | (refine bodyPost_end (results_none rfl _ _ _) rfl ?_; exact ⟨⟨_, rfl⟩, .inr ⟨_, npf3 hg3, HX.out⟩⟩) | exact absurd ‹some undef = some (Value.bool _)› (by intro h; cases h)
              · have hf3 : decide ((c : Int) + wd < N) = false := by simp; omega
                have HC4 := HC3
                have hJ4 : Hid (J (nC wd c ++ nA col c ++ nB wd col c ++ nD wd N c) _) := Lib.hid (by simpa [nD, hg3] using hJ3.out)
                obtain ⟨r1, r2, r3⟩ := HC3.out
                gi_wp2
                refine bodyPost_end (results_none rfl _ _ _) rfl ?_
                exact ⟨⟨_, rfl⟩, .inl ⟨_, rfl, hJ4.out⟩⟩
            · have HX := Lib.hid hjx
              clear hjx HR r1 r2 r3
              gi_wp2
              all_goals first | (refine bodyPost_ret (results_none rfl _ _ _) rfl ?_; exact ⟨⟨_, rfl⟩, .inr ⟨_, npf2 hg2, HX.out⟩⟩) | exact absurd ‹some undef = some (Value.bool _)› (by intro h; cases h)
          · have hf2 : decide ((col : Int) + 1 < (wd : Int)) = false := by simp; omega
            have HC3 := HC2
            have hJ3 : Hid (J (nC wd c ++ nA col c ++ nB wd col c) _) := Lib.hid (by simpa [nB, hg2] using hJ2.out)
            by_cases hg3 : c + wd < N
            · have hf3 : decide ((c : Int) + wd < N) = true := by simp; omega
              obtain ⟨r1, r2, r3⟩ := HC3.out
              obtain ⟨fn, tmps, assign, body, hy, hR⟩ := HY.out (nC wd c ++ nA col c ++ nB wd col c) ((c : Int) + wd) _ hJ3.out (npf3 hg3)
              have HR := Lib.hid (And.intro hy hR)
              clear hy hR
              gi_wp2_with fail
              rw [HR.out.1]
              simp only [Oper.uponIn]
              refine ⟨fun h => (by rw [hd] at h; cases h), HR.out.2.mono ?_⟩
              rintro e W4 (⟨rfl, hj, hb⟩ | ⟨rfl, hjx⟩)
              · have HC4 := Lib.hid (hb HC3.out)
                have hJ4 : Hid (J (nC wd c ++ nA col c ++ nB wd col c ++ nD wd N c) W4) := Lib.hid (by simpa [nD, hg3] using hj)
                clear hj hb HR r1 r2 r3
                gi_wp2
                refine bodyPost_end (results_none rfl _ _ _) rfl ?_
                exact ⟨⟨_, rfl⟩, .inl ⟨_, rfl, hJ4.out⟩⟩
              · have HX := Lib.hid hjx
                clear hjx HR r1 r2 r3
                gi_wp2
                all_goals first | (refine bodyPost_end (results_none rfl _ _ _) rfl ?_; exact ⟨⟨_, rfl⟩, .inr ⟨_, npf3 hg3, HX.out⟩⟩) | exact absurd ‹some undef = some (Value.bool _)› (by intro h; cases h)
            · have hf3 : decide ((c : Int) + wd < N) = false := by simp; omega
              have HC4 := HC3
              have hJ4 : Hid (J (nC wd c ++ nA col c ++ nB wd col c ++ nD wd N c) _) := Lib.hid (by simpa [nD, hg3] using hJ3.out)
              obtain ⟨r1, r2, r3⟩ := HC3.out
              gi_wp2
              refine bodyPost_end (results_none rfl _ _ _) rfl ?_
              exact ⟨⟨_, rfl⟩, .inl ⟨_, rfl, hJ4.out⟩⟩
        · have HX := Lib.hid hjx
          clear hjx HR r1 r2 r3
          gi_wp2
          all_goals first | (refine bodyPost_ret (results_none rfl _ _ _) rfl ?_; exact ⟨⟨_, rfl⟩, .inr ⟨_, npf1 hg1, HX.out⟩⟩) | exact absurd ‹some undef = some (Value.bool _)› (by intro h; cases h)
      · have hf1 : decide ((0 : Int) < (col : Int)) = false := by simp; omega
        have HC2 := HC1
        have hJ2 : Hid (J (nC wd c ++ nA col c) _) := Lib.hid (by simpa [nA, hg1] using hJ1.out)
        by_cases hg2 : col + 1 < wd
        · have hf2 : decide ((col : Int) + 1 < (wd : Int)) = true := by simp; omega
          obtain ⟨r1, r2, r3⟩ := HC2.out
          obtain ⟨fn, tmps, assign, body, hy, hR⟩ := HY.out (nC wd c ++ nA col c) ((c : Int) + 1) _ hJ2.out (npf2 hg2)
          have HR := Lib.hid (And.intro hy hR)
          clear hy hR
          gi_wp2_with fail
          rw [HR.out.1]
          simp only [Oper.uponIn]
          refine ⟨fun h => (by rw [hd] at h; cases h), HR.out.2.mono ?_⟩
          rintro e W3 (⟨rfl, hj, hb⟩ | ⟨rfl, hjx⟩)
          · have HC3 := Lib.hid (hb HC2.out)
            have hJ3 : Hid (J (nC wd c ++ nA col c ++ nB wd col c) W3) := Lib.hid (by simpa [nB, hg2] using hj)
            clear hj hb HR r1 r2 r3
            by_cases hg3 : c + wd < N
            · have hf3 : decide ((c : Int) + wd < N) = true := by simp; omega
              obtain ⟨r1, r2, r3⟩ := HC3.out
              obtain ⟨fn, tmps, assign, body, hy, hR⟩ := HY.out (nC wd c ++ nA col c ++ nB wd col c) ((c : Int) + wd) _ hJ3.out (npf3 hg3)
              have HR := Lib.hid (And.intro hy hR)
              clear hy hR
              gi_wp2_with fail
              rw [HR.out.1]
              simp only [Oper.uponIn]
              refine ⟨fun h => (by rw [hd] at h; cases h), HR.out.2.mono ?_⟩
              rintro e W4 (⟨rfl, hj, hb⟩ | ⟨rfl, hjx⟩)
              · have HC4 := Lib.hid (hb HC3.out)
                have hJ4 : Hid (J (nC wd c ++ nA col c ++ nB wd col c ++ nD wd N c) W4) := Lib.hid (by simpa [nD, hg3] using hj)
                clear hj hb HR r1 r2 r3
                gi_wp2
                refine bodyPost_end (results_none rfl _ _ _) rfl ?_
                exact ⟨⟨_, rfl⟩, .inl ⟨_, rfl, hJ4.out⟩⟩
              · have HX := Lib.hid hjx
                clear hjx HR r1 r2 r3
                gi_wp2
                all_goals first | (refine bodyPost_end (results_none rfl _ _ _) rfl ?_; exact ⟨⟨_, rfl⟩, .inr ⟨_, npf3 hg3, HX.out⟩⟩) | exact absurd ‹some undef = some (Value.bool _)› (by intro h; cases h)
            · have hf3 : decide ((c : Int) + wd < N) = false := by simp; omega
              have HC4 := HC3
              have hJ4 : Hid (J (nC wd c ++ nA col c ++ nB wd col c ++ nD wd N c) _) := Lib.hid (by simpa [nD, hg3] using hJ3.out)
              obtain ⟨r1, r2, r3⟩ := HC3.out
              gi_wp2
              refine bodyPost_end (results_none rfl _ _ _) rfl ?_
              exact ⟨⟨_, rfl⟩, .inl ⟨_, rfl, hJ4.out⟩⟩
          · have HX := Lib.hid hjx
            clear hjx HR r1 r2 r3
            gi_wp2
            all_goals first | (refine bodyPost_ret (results_none rfl _ _ _) rfl ?_; exact ⟨⟨_, rfl⟩, .inr ⟨_, npf2 hg2, HX.out⟩⟩) | exact absurd ‹some undef = some (Value.bool _)› (by intro h; cases h)
        · have hf2 : decide ((col : Int) + 1 < (wd : Int)) = false := by simp; omega
          have HC3 := HC2
          have hJ3 : Hid (J (nC wd c ++ nA col c ++ nB wd col c) _) := Lib.hid (by simpa [nB, hg2] using hJ2.out)
          by_cases hg3 : c + wd < N
          · have hf3 : decide ((c : Int) + wd < N) = true := by simp; omega
            obtain ⟨r1, r2, r3⟩ := HC3.out
            obtain ⟨fn, tmps, assign, body, hy, hR⟩ := HY.out (nC wd c ++ nA col c ++ nB wd col c) ((c : Int) + wd) _ hJ3.out (npf3 hg3)
            have HR := Lib.hid (And.intro hy hR)
            clear hy hR
            gi_wp2_with fail
            rw [HR.out.1]
            simp only [Oper.uponIn]
            refine ⟨fun h => (by rw [hd] at h; cases h), HR.out.2.mono ?_⟩
            rintro e W4 (⟨rfl, hj, hb⟩ | ⟨rfl, hjx⟩)
            · have HC4 := Lib.hid (hb HC3.out)
              have hJ4 : Hid (J (nC wd c ++ nA col c ++ nB wd col c ++ nD wd N c) W4) := Lib.hid (by simpa [nD, hg3] using hj)
              clear hj hb HR r1 r2 r3
              gi_wp2
              refine bodyPost_end (results_none rfl _ _ _) rfl ?_
              exact ⟨⟨_, rfl⟩, .inl ⟨_, rfl, hJ4.out⟩⟩
            · have HX := Lib.hid hjx
              clear hjx HR r1 r2 r3
              gi_wp2
              all_goals first | (refine bodyPost_end (results_none rfl _ _ _) rfl ?_; exact ⟨⟨_, rfl⟩, .inr ⟨_, npf3 hg3, HX.out⟩⟩) | exact absurd ‹some undef = some (Value.bool _)› (by intro h; cases h)
          · have hf3 : decide ((c : Int) + wd < N) = false := by simp; omega
            have HC4 := HC3
            have hJ4 : Hid (J (nC wd c ++ nA col c ++ nB wd col c ++ nD wd N c) _) := Lib.hid (by simpa [nD, hg3] using hJ3.out)
            obtain ⟨r1, r2, r3⟩ := HC3.out
            gi_wp2
            refine bodyPost_end (results_none rfl _ _ _) rfl ?_
            exact ⟨⟨_, rfl⟩, .inl ⟨_, rfl, hJ4.out⟩⟩
    · have HX := Lib.hid hjx
      clear hjx HR r1 r2 r3
      gi_wp2
      all_goals first | (refine bodyPost_ret (results_none rfl _ _ _) rfl ?_; exact ⟨⟨_, rfl⟩, .inr ⟨_, npf0 hg0, HX.out⟩⟩) | exact absurd ‹some undef = some (Value.bool _)› (by intro h; cases h)
  · have hf0 : decide ((wd : Int) ≤ (c : Int)) = false := by simp; omega
    have HC1 := HC0
    have hJ1 : Hid (J (nC wd c) _) := Lib.hid (by simpa [nC, hg0] using hJ0.out)
    by_cases hg1 : 0 < col
    · have hf1 : decide ((0 : Int) < (col : Int)) = true := by simp; omega
      obtain ⟨r1, r2, r3⟩ := HC1.out
      obtain ⟨fn, tmps, assign, body, hy, hR⟩ := HY.out (nC wd c) ((c : Int) - 1) _ hJ1.out (npf1 hg1)
      have HR := Lib.hid (And.intro hy hR)
      clear hy hR
      gi_wp2_with fail
      rw [HR.out.1]
      simp only [Oper.uponIn]
      refine ⟨fun h => (by rw [hd] at h; cases h), HR.out.2.mono ?_⟩
      rintro e W2 (⟨rfl, hj, hb⟩ | ⟨rfl, hjx⟩)
      · have HC2 := Lib.hid (hb HC1.out)
        have hJ2 : Hid (J (nC wd c ++ nA col c) W2) := Lib.hid (by simpa [nA, hg1] using hj)
        clear hj hb HR r1 r2 r3
        by_cases hg2 : col + 1 < wd
        · have hf2 : decide ((col : Int) + 1 < (wd : Int)) = true := by simp; omega
          obtain ⟨r1, r2, r3⟩ := HC2.out
          obtain ⟨fn, tmps, assign, body, hy, hR⟩ := HY.out (nC wd c ++ nA col c) ((c : Int) + 1) _ hJ2.out (npf2 hg2)
          have HR := Lib.hid (And.intro hy hR)
          clear hy hR
          gi_wp2_with fail
          rw [HR.out.1]
          simp only [Oper.uponIn]
          refine ⟨fun h => (by rw [hd] at h; cases h), HR.out.2.mono ?_⟩
          rintro e W3 (⟨rfl, hj, hb⟩ | ⟨rfl, hjx⟩)
          · have HC3 := Lib.hid (hb HC2.out)
            have hJ3 : Hid (J (nC wd c ++ nA col c ++ nB wd col c) W3) := Lib.hid (by simpa [nB, hg2] using hj)
            clear hj hb HR r1 r2 r3
            by_cases hg3 : c + wd < N
            · have hf3 : decide ((c : Int) + wd < N) = true := by simp; omega
              obtain ⟨r1, r2, r3⟩ := HC3.out
              obtain ⟨fn, tmps, assign, body, hy, hR⟩ := HY.out (nC wd c ++ nA col c ++ nB wd col c) ((c : Int) + wd) _ hJ3.out (npf3 hg3)
              have HR := Lib.hid (And.intro hy hR)
              clear hy hR
              gi_wp2_with fail
              rw [HR.out.1]
              simp only [Oper.uponIn]
              refine ⟨fun h => (by rw [hd] at h; cases h), HR.out.2.mono ?_⟩
              rintro e W4 (⟨rfl, hj, hb⟩ | ⟨rfl, hjx⟩)
              · have HC4 := Lib.hid (hb HC3.out)
                have hJ4 : Hid (J (nC wd c ++ nA col c ++ nB wd col c ++ nD wd N c) W4) := Lib.hid (by simpa [nD, hg3] using hj)
                clear hj hb HR r1 r2 r3
                gi_wp2
                refine bodyPost_end (results_none rfl _ _ _) rfl ?_
                exact ⟨⟨_, rfl⟩, .inl ⟨_, rfl, hJ4.out⟩⟩
              · have HX := Lib.hid hjx
                clear hjx HR r1 r2 r3
                gi_wp2
                all_goals first | (refine bodyPost_end (results_none rfl _ _ _) rfl ?_; exact ⟨⟨_, rfl⟩, .inr ⟨_, npf3 hg3, HX.out⟩⟩) | exact absurd ‹some undef = some (Value.bool _)› (by intro h; cases h)
            · have hf3 : decide ((c : Int) + wd < N) = false := by simp; omega
              have HC4 := HC3
              have hJ4 : Hid (J (nC wd c ++ nA col c ++ nB wd col c ++ nD wd N c) _) := Lib.hid (by simpa [nD, hg3] using hJ3.out)
              obtain ⟨r1, r2, r3⟩ := HC3.out
              gi_wp2
              refine bodyPost_end (results_none rfl _ _ _) rfl ?_
              exact ⟨⟨_, rfl⟩, .inl ⟨_, rfl, hJ4.out⟩⟩
          · have HX := Lib.hid hjx
            clear hjx HR r1 r2 r3
            gi_wp2
            all_goals first | (refine bodyPost_ret (results_none rfl _ _ _) rfl ?_; exact ⟨⟨_, rfl⟩, .inr ⟨_, npf2 hg2, HX.out⟩⟩) | exact absurd ‹some undef = some (Value.bool _)› (by intro h; cases h)
        · have hf2 : decide ((col : Int) + 1 < (wd : Int)) = false := by simp; omega
          have HC3 := HC2
          have hJ3 : Hid (J (nC wd c ++ nA col c ++ nB wd col c) _) := Lib.hid (by simpa [nB, hg2] using hJ2.out)
          by_cases hg3 : c + wd < N
          · have hf3 : decide ((c : Int) + wd < N) = true := by simp; omega
            obtain ⟨r1, r2, r3⟩ := HC3.out
            obtain ⟨fn, tmps, assign, body, hy, hR⟩ := HY.out (nC wd c ++ nA col c ++ nB wd col c) ((c : Int) + wd) _ hJ3.out (npf3 hg3)
            have HR := Lib.hid (And.intro hy hR)
            clear hy hR
            gi_wp2_with fail
            rw [HR.out.1]
            simp only [Oper.uponIn]
            refine ⟨fun h => (by rw [hd] at h; cases h), HR.out.2.mono ?_⟩
            rintro e W4 (⟨rfl, hj, hb⟩ | ⟨rfl, hjx⟩)
            · have HC4 := Lib.hid (hb HC3.out)
              have hJ4 : Hid (J (nC wd c ++ nA col c ++ nB wd col c ++ nD wd N c) W4) := Lib.hid (by simpa [nD, hg3] using hj)
              clear hj hb HR r1 r2 r3
              gi_wp2
              refine bodyPost_end (results_none rfl _ _ _) rfl ?_
              exact ⟨⟨_, rfl⟩, .inl ⟨_, rfl, hJ4.out⟩⟩
            · have HX := Lib.hid hjx
              clear hjx HR r1 r2 r3
              gi_wp2
              all_goals first | (refine bodyPost_end (results_none rfl _ _ _) rfl ?_; exact ⟨⟨_, rfl⟩, .inr ⟨_, npf3 hg3, HX.out⟩⟩) | exact absurd ‹some undef = some (Value.bool _)› (by intro h; cases h)
          · have hf3 : decide ((c : Int) + wd < N) = false := by simp; omega
            have HC4 := HC3
            have hJ4 : Hid (J (nC wd c ++ nA col c ++ nB wd col c ++ nD wd N c) _) := Lib.hid (by simpa [nD, hg3] using hJ3.out)
            obtain ⟨r1, r2, r3⟩ := HC3.out
            gi_wp2
            refine bodyPost_end (results_none rfl _ _ _) rfl ?_
            exact ⟨⟨_, rfl⟩, .inl ⟨_, rfl, hJ4.out⟩⟩
      · have HX := Lib.hid hjx
        clear hjx HR r1 r2 r3
        gi_wp2
        all_goals first | (refine bodyPost_ret (results_none rfl _ _ _) rfl ?_; exact ⟨⟨_, rfl⟩, .inr ⟨_, npf1 hg1, HX.out⟩⟩) | exact absurd ‹some undef = some (Value.bool _)› (by intro h; cases h)
    · have hf1 : decide ((0 : Int) < (col : Int)) = false := by simp; omega
      have HC2 := HC1
      have hJ2 : Hid (J (nC wd c ++ nA col c) _) := Lib.hid (by simpa [nA, hg1] using hJ1.out)
      by_cases hg2 : col + 1 < wd
      · have hf2 : decide ((col : Int) + 1 < (wd : Int)) = true := by simp; omega
        obtain ⟨r1, r2, r3⟩ := HC2.out
        obtain ⟨fn, tmps, assign, body, hy, hR⟩ := HY.out (nC wd c ++ nA col c) ((c : Int) + 1) _ hJ2.out (npf2 hg2)
        have HR := Lib.hid (And.intro hy hR)
        clear hy hR
        gi_wp2_with fail
        rw [HR.out.1]
        simp only [Oper.uponIn]
        refine ⟨fun h => (by rw [hd] at h; cases h), HR.out.2.mono ?_⟩
        rintro e W3 (⟨rfl, hj, hb⟩ | ⟨rfl, hjx⟩)
        · have HC3 := Lib.hid (hb HC2.out)
          have hJ3 : Hid (J (nC wd c ++ nA col c ++ nB wd col c) W3) := Lib.hid (by simpa [nB, hg2] using hj)
          clear hj hb HR r1 r2 r3
          by_cases hg3 : c + wd < N
          · have hf3 : decide ((c : Int) + wd < N) = true := by simp; omega
            obtain ⟨r1, r2, r3⟩ := HC3.out
            obtain ⟨fn, tmps, assign, body, hy, hR⟩ := HY.out (nC wd c ++ nA col c ++ nB wd col c) ((c : Int) + wd) _ hJ3.out (npf3 hg3)
            have HR := Lib.hid (And.intro hy hR)
            clear hy hR
            gi_wp2_with fail
            rw [HR.out.1]
            simp only [Oper.uponIn]
            refine ⟨fun h => (by rw [hd] at h; cases h), HR.out.2.mono ?_⟩
            rintro e W4 (⟨rfl, hj, hb⟩ | ⟨rfl, hjx⟩)
            · have HC4 := Lib.hid (hb HC3.out)
              have hJ4 : Hid (J (nC wd c ++ nA col c ++ nB wd col c ++ nD wd N c) W4) := Lib.hid (by simpa [nD, hg3] using hj)
              clear hj hb HR r1 r2 r3
              gi_wp2
              refine bodyPost_end (results_none rfl _ _ _) rfl ?_
              exact ⟨⟨_, rfl⟩, .inl ⟨_, rfl, hJ4.out⟩⟩
            · have HX := Lib.hid hjx
              clear hjx HR r1 r2 r3
              gi_wp2
              all_goals first | (refine bodyPost_end (results_none rfl _ _ _) rfl ?_; exact ⟨⟨_, rfl⟩, .inr ⟨_, npf3 hg3, HX.out⟩⟩) | exact absurd ‹some undef = some (Value.bool _)› (by intro h; cases h)
          · have hf3 : decide ((c : Int) + wd < N) = false := by simp; omega
            have HC4 := HC3
            have hJ4 : Hid (J (nC wd c ++ nA col c ++ nB wd col c ++ nD wd N c) _) := Lib.hid (by simpa [nD, hg3] using hJ3.out)
            obtain ⟨r1, r2, r3⟩ := HC3.out
            gi_wp2
            refine bodyPost_end (results_none rfl _ _ _) rfl ?_
            exact ⟨⟨_, rfl⟩, .inl ⟨_, rfl, hJ4.out⟩⟩
        · have HX := Lib.hid hjx
          clear hjx HR r1 r2 r3
          gi_wp2
          all_goals first | (refine bodyPost_ret (results_none rfl _ _ _) rfl ?_; exact ⟨⟨_, rfl⟩, .inr ⟨_, npf2 hg2, HX.out⟩⟩) | exact absurd ‹some undef = some (Value.bool _)› (by intro h; cases h)
      · have hf2 : decide ((col : Int) + 1 < (wd : Int)) = false := by simp; omega
        have HC3 := HC2
        have hJ3 : Hid (J (nC wd c ++ nA col c ++ nB wd col c) _) := Lib.hid (by simpa [nB, hg2] using hJ2.out)
        by_cases hg3 : c + wd < N
        · have hf3 : decide ((c : Int) + wd < N) = true := by simp; omega
          obtain ⟨r1, r2, r3⟩ := HC3.out
          obtain ⟨fn, tmps, assign, body, hy, hR⟩ := HY.out (nC wd c ++ nA col c ++ nB wd col c) ((c : Int) + wd) _ hJ3.out (npf3 hg3)
          have HR := Lib.hid (And.intro hy hR)
          clear hy hR
          gi_wp2_with fail
          rw [HR.out.1]
          simp only [Oper.uponIn]
          refine ⟨fun h => (by rw [hd] at h; cases h), HR.out.2.mono ?_⟩
          rintro e W4 (⟨rfl, hj, hb⟩ | ⟨rfl, hjx⟩)
          · have HC4 := Lib.hid (hb HC3.out)
            have hJ4 : Hid (J (nC wd c ++ nA col c ++ nB wd col c ++ nD wd N c) W4) := Lib.hid (by simpa [nD, hg3] using hj)
            clear hj hb HR r1 r2 r3
            gi_wp2
            refine bodyPost_end (results_none rfl _ _ _) rfl ?_
            exact ⟨⟨_, rfl⟩, .inl ⟨_, rfl, hJ4.out⟩⟩
          · have HX := Lib.hid hjx
            clear hjx HR r1 r2 r3
            gi_wp2
            all_goals first | (refine bodyPost_end (results_none rfl _ _ _) rfl ?_; exact ⟨⟨_, rfl⟩, .inr ⟨_, npf3 hg3, HX.out⟩⟩) | exact absurd ‹some undef = some (Value.bool _)› (by intro h; cases h)
        · have hf3 : decide ((c : Int) + wd < N) = false := by simp; omega
          have HC4 := HC3
          have hJ4 : Hid (J (nC wd c ++ nA col c ++ nB wd col c ++ nD wd N c) _) := Lib.hid (by simpa [nD, hg3] using hJ3.out)
          obtain ⟨r1, r2, r3⟩ := HC3.out
          gi_wp2
          refine bodyPost_end (results_none rfl _ _ _) rfl ?_
          exact ⟨⟨_, rfl⟩, .inl ⟨_, rfl, hJ4.out⟩⟩

theorem nbr1_in (F : Fence) (n : Nat) (hF : ∀ f, F.fn f) (hd : F.depth = none) (hro : F.round = none) (l bw bc wd N c cap : Nat) (ha : Option Addr) (J Jx : List Int → World → Prop)
    (hY : ∀ pre x W, J pre W → pre ++ [x] <+: nbrL wd N c → YieldAt F (n - 1) Try.prog l #[.int .i64 x] W fun e W' =>
      (e = .returned (.bool true) ∧ J (pre ++ [x]) W' ∧ (Ne bw bc wd N cap c ha W → Ne bw bc wd N cap c ha W')) ∨ (e = .returned (.bool false) ∧ Jx (pre ++ [x]) W'))
    (hJd : ∀ pre W, J pre W → J pre W.drew)
    (W : World) (hw0 : 0 < wd) (hwd : wd ≤ 100) (hN : N ≤ 100) (hc : c < 100)
    (hC0 : Ne bw bc wd N cap c ha W) (h0 : J [] W) :
    CallsIn F n Try.prog 132 #[.func (.yield l) #[] #[], .pointer (some ⟨bc, 0, none⟩), .pointer (some ⟨bw, 0, none⟩)] W fun e W' => (∃ v, e = .returned v) ∧
      ((∃ ys, ys = nbrL wd N c ∧ J ys W') ∨ (∃ pre, pre <+: nbrL wd N c ∧ Jx pre W')) :=
  nbr1_col F n hF hd hro l bw bc wd N c (c % wd) cap (Lib.hid rfl) ha J Jx hY hJd W hw0 hwd hN hc hC0 h0

theorem Ne.steady {bw bc wd N cap c B : Nat} {ha : Option Addr} {w w' : World} (h : Ne bw bc wd N cap c ha w) (hs : Steady B w w') : Ne bw bc wd N cap c ha w' := ⟨hs.cell h.1, hs.cell h.2.1, hs.cell h.2.2⟩
theorem Ne.below {bw bc wd N cap c : Nat} {ha : Option Addr} {w w' : World} (h : Ne bw bc wd N cap c ha w) (hb : Below w.heap.size w w') : Ne bw bc wd N cap c ha w' :=
  ⟨(hb.cell (World.block_lt_of_cell? _ _ h.1)).trans h.1, (hb.cell (World.block_lt_of_cell? _ _ h.2.1)).trans h.2.1, (hb.cell (World.block_lt_of_cell? _ _ h.2.2)).trans h.2.2⟩
theorem Ne.grown {bw bc wd N cap c : Nat} {ha : Option Addr} {w w' : World} {row : Option Nat} (h : Ne bw bc wd N cap c ha w) (hg : w.grownBy w' row) (h1 : row ≠ some bw) (h2 : row ≠ some bc) : Ne bw bc wd N cap c ha w' :=
  ⟨hg.cell h.1 (fun e => h1 e.symm), hg.cell h.2.1 (fun e => h1 e.symm), hg.cell h.2.2 (fun e => h2 e.symm)⟩
theorem nbr_iter {bw bc wd N cap c : Nat} {ha : Option Addr} {w : World} (hw0 : 0 < wd) (hwd : wd ≤ 100) (hN : N ≤ 100) (hc : c < 100) (h : Ne bw bc wd N cap c ha w) :
    IterAt Try.prog 132 #[.pointer (some ⟨bc, 0, none⟩), .pointer (some ⟨bw, 0, none⟩)] (Ne bw bc wd N cap c ha) (nbrL wd N c) w := by
  intro n l J Jx W hW hJ hJx hY h0
  have hCW := h.below hW
  have key := nbr1_in Fence.wide n (fun _ => trivial) rfl rfl l bw bc wd N c cap ha (fun pre W => ∃ pl : List { x : Int // x ∈ nbrL wd N c }, pl.map (·.1) = pre ∧ J pl W)
    (fun pre W => ∃ pl : List { x : Int // x ∈ nbrL wd N c }, pl.map (·.1) = pre ∧ Jx pl W) ?_ ?_ W hw0 hwd hN hc hCW ⟨[], rfl, h0⟩
  · refine key.mono ?_
    rintro e W' ⟨hv, ⟨ys, hys, pl, hpl, hj⟩ | ⟨pre, hpre, pl, hpl, hj⟩⟩
    · exact ⟨hv, .inl ⟨pl, hpl.trans hys, hj⟩⟩
    · exact ⟨hv, .inr ⟨pl, (by show pl.map (·.1) <+: _; rw [hpl]; exact hpre), hj⟩⟩
  · rintro pre x W1 ⟨pl, hpl, hj⟩ hpre
    have hx : x ∈ nbrL wd N c := hpre.subset (by simp)
    have hlen : pl.length < (nbrL wd N c).length + 1 := by
      have h1 := hpre.length_le
      rw [← hpl] at h1
      simp at h1
      omega
    obtain ⟨fn, tmps, assign, body, hy, hR⟩ := hY pl ⟨x, hx⟩ W1 hj hlen
    refine ⟨fn, tmps, assign, body, hy, hR.mono ?_⟩
    rintro e W' (⟨he, hj', hk⟩ | ⟨he, hj'⟩)
    · exact .inl ⟨he, ⟨pl ++ [⟨x, hx⟩], by simp [hpl], hj'⟩, hk⟩
    · exact .inr ⟨he, ⟨pl ++ [⟨x, hx⟩], by simp [hpl], hj'⟩⟩
  · rintro pre W1 ⟨pl, hpl, hj⟩
    exact ⟨pl, hpl, hJ pl W1 W1.drew none hj ⟨rfl, rfl, rfl, Nat.le_refl _, fun _ _ _ => rfl⟩ (fun r e => by cases e)⟩
set_option maxHeartbeats 400000 in
theorem neighbours_any (wd c : Int) (v : Value) (w : World) (hv : ∃ a n k, v = .slice a n k) :
    Calls Try.prog 82 #[.agg #[.int .i64 wd, v], .int .i64 c] w fun e w' =>
      e = .returned (.func (.func 132) #[] #[.pointer (some ⟨w.heap.size + 1, 0, none⟩), .pointer (some ⟨w.heap.size, 0, none⟩)]) ∧
      (w.alloc (.cells #[.int .i64 wd, v] 25)).alloc (.cells #[.int .i64 c] 3) = w' := by
  obtain ⟨a, n, k, rfl⟩ := hv
  go_enter Try.func82, Try.ntmps82
  go_wp2
  go_ret
  exact ⟨rfl, rfl⟩
theorem Ne.made {wd N cap c : Nat} {ha : Option Addr} (w : World) : Ne w.heap.size (w.heap.size + 1) wd N cap c ha ((w.alloc (.cells #[.int .i64 wd, .slice ha N cap] 25)).alloc (.cells #[.int .i64 c] 3)) := by
  refine ⟨?_, ?_, ?_⟩ <;> simp [go_sem]
theorem nbrW_below (w : World) (m : Array Value) (c : Value) (t t' : TypeId) : Below w.heap.size w ((w.alloc (.cells m t)).alloc (.cells #[c] t')) := ((Below.refl _ w).alloc (Nat.le_refl _) _).alloc (by simp) _
end Go.Proofs.Ytiacgaplhndlnaa
