/-
  Parts of the proof, in the order in which they build: EwC.
-/
import Derived.Test.YtkjcnkkmhkcddaaA31
import Derived.Test.YtkjcnkkmhkcddaaA19
import Derived.Test.YtkjcnkkmhkcddaaC1
set_option linter.unusedVariables false
set_option linter.unusedSimpArgs false
namespace Go.Proofs.Ytkjcnkkmhkcddaa
open Go.RowKit Go.Shelf
open Lim

attribute [local go_sem] Oper.semAt_some

/-- a way from state 0 to a plot, and how many can go it -/
structure WayM (m : Mp) (R : Nat → Nat → Option Int) (M : Nat → Bool) (rk : Nat → Nat) (t last x : Nat) (L : List Nat) (c : Int) : Prop where
  bk : BackD m.n (edR m R) M rk last x L
  c0 : 1 ≤ c ∧ c ≤ 1000
  le : ∀ l a b r, L = l ++ a :: b :: r → c ≤ (R a b).getD 0
  at_ : c = 1000 ∨ ∃ l a b r, L = l ++ a :: b :: r ∧ c = (R a b).getD 0
  len : L.length + rk x ≤ t
theorem WayM.start {m : Mp} {R : Nat → Nat → Option Int} {M : Nat → Bool} {rk : Nat → Nat} {t last : Nat} (h : M last = true) (hr : rk last < t) : WayM m R M rk t last last [last] 1000 :=
  ⟨BackD.start h, by omega, fun l a b r e => by have := congrArg List.length e; simp at this; omega, .inl rfl, by simp; omega⟩
theorem WayM.step {m : Mp} {R : Nat → Nat → Option Int} {M : Nat → Bool} {rk : Nat → Nat} {t last x p : Nat} {L : List Nat} {c : Int} (h : WayM m R M rk t last x L c) (hp : M p = true) (he : edR m R p x) (hr : rk p < rk x) (h1 : 1 ≤ (R p x).getD 0) :
    WayM m R M rk t last p (p :: L) (min c ((R p x).getD 0)) := by
  obtain ⟨s, hs⟩ := h.bk.head
  have split : ∀ l a b r, p :: L = l ++ a :: b :: r → (a = p ∧ b = x) ∨ ∃ l', L = l' ++ a :: b :: r := fun l a b r e => by
    match l with
    | [] =>
      have e2 := List.cons.inj (show p :: L = a :: b :: r from e)
      rw [hs] at e2
      exact .inl ⟨e2.1.symm, (List.cons.inj e2.2).1.symm⟩
    | z :: l' => exact .inr ⟨l', (List.cons.inj (show p :: L = z :: (l' ++ a :: b :: r) from e)).2⟩
  refine ⟨h.bk.step hp he hr, ⟨by have := h.c0; omega, by have := h.c0; omega⟩, fun l a b r e => ?_, ?_, by have := h.len; simp; omega⟩
  · rcases split l a b r e with ⟨rfl, rfl⟩ | ⟨l', e2⟩
    · omega
    · have := h.le l' a b r e2; omega
  · rcases Int.le_total ((R p x).getD 0) c with h2 | h2
    · refine .inr ⟨[], p, x, s, by rw [hs]; rfl, by omega⟩
    · rcases h.at_ with h3 | ⟨l, a, b, r, h3, h4⟩
      · exact .inl (by omega)
      · exact .inr ⟨p :: l, a, b, r, by rw [h3]; rfl, by omega⟩
set_option maxRecDepth 100000 in
set_option maxHeartbeats 4000000 in
theorem way_any {B bf bm c n wd : Nat} {m : Mp} {oa : Option Addr} {oc : Nat} {ev sv : Value} {R : Nat → Nat → Option Int} {M : Nat → Bool} {Fr : Nat → Int} {rk : Nat → Nat} {t last : Nat} {q : List Nat} {St : Nat → Prop} {w : World}
    (hn : m.n ≤ 100) (hw : FlE w B bf bm n wd c oa oc ev sv m.os M Fr R) (hD : DBase m.n (edR m R) St M Fr rk t q) (hl : M last = true) (ht : t ≤ 101) (hR : ∀ a b, edR m R a b → 1 ≤ (R a b).getD 0) :
    Calls Try.prog 77 #[.pointer (some ⟨bf, 0, none⟩), .int .i64 last] w fun e w' => Below w.heap.size w w' ∧ ∃ v L a k, e = .returned (.tuple #[v, .int .i64 k]) ∧ w'.ownsRow w.heap.size 3 1 v L.length (ints (L.map Int.ofNat)) ∧ WayM m R M rk t last a L k ∧ St a := by
  have HD := Lib.hid (And.intro hD hR)
  have HW := Lib.hid hw
  have hll : last < m.n := hD.ins last hl
  have HS := Lib.hid (WayM.start (m := m) (R := R) hl (hD.rank last hl))
  have HT := Lib.hid ht
  obtain ⟨i0, hi, hz0, hz1, hz2⟩ := info_parts Try.infoInt
  have HF := Lib.hid (And.intro hi (And.intro hz0 (And.intro hz1 hz2)))
  clear hw hD hl ht hR hi hz0 hz1 hz2
  go_enter Try.func77, Try.ntmps77
  go_wp2_with fail
  have H1 : Hid (Below w.heap.size w (w.alloc (.cells #[.int .i64 last] 3)) ∧ (w.alloc (.cells #[.int .i64 last] 3)).ownsRow w.heap.size 3 1 (.slice (some ⟨w.heap.size, 0, none⟩) 1 1) 1 (ints ([last].map Int.ofNat))) :=
    Lib.hid ⟨(Below.refl _ w).alloc (Nat.le_refl _) _, by simp [ints], .inr ⟨w.heap.size, 1, _, rfl, Nat.le_refl _, heap_alloc_new w _, Nat.le_refl _, by unfold maxLen; omega, by simp, by simp [ints]⟩⟩
  go_loopw [6, 7, 8] (fun o mv pv wr => ∃ (x : Nat) (L : List Nat) (k : Int), pv = .int .i64 x ∧ mv = .int .i64 k ∧ x < 100 ∧ Hid (Below w.heap.size w wr ∧ wr.ownsRow w.heap.size 3 1 o L.length (ints (L.reverse.map Int.ofNat)) ∧ WayM m R M rk t last x L k ∧ M x = true)) (fun _ _ pv _ => rk (intOf pv).toNat)
  case atStart => exact ⟨last, [last], 1000, rfl, rfl, by omega, Lib.hid ⟨H1.out.1, H1.out.2, HS.out, HS.out.bk.met last (by simp)⟩⟩
  case round =>
    clear H1 HS hll
    obtain ⟨x, L, k, rfl, rfl, hx, hI⟩ := hrel
    have hx64 : (x : Int) < 100 := by omega
    have f4 := hI.out.1.on HW.out.c4.1
    have f5 := hI.out.1.on (HW.out.fr x hx).1
    rcases HD.out.1.link x hI.out.2.2.2 with ⟨h1, h2⟩ | ⟨p, h1, h2, h3, h4⟩
    · rw [h1] at f5
      have HST := Lib.hid h2
      clear h1 h2
      go_wp2_with fail
      refine (reverse_any (L := L.reverse.map Int.ofNat) (by have := hI.out.2.2.1.len; have := HT.out; simp; omega) (by have := hI.out.2.1; simpa using this)).mono ?_
      rintro e w9 ⟨rfl, hown9, hgr9⟩
      have hb9 : Below w.heap.size w w9 := hI.out.1.grown hgr9 hI.out.1.size (fun z hz => (hI.out.2.1.lt z hz).1)
      have H9 : Hid (Below w.heap.size w w9 ∧ w9.ownsRow w.heap.size 3 1 u6 L.length (ints (L.map Int.ofNat))) := Lib.hid ⟨hb9, by
        have := hown9
        simpa using this⟩
      clear hown9 hgr9 hb9
      go_wp2_with fail
      go_ret2
      exact ⟨H9.out.1, _, L, x, k, rfl, H9.out.2, hI.out.2.2.1, HST.out⟩
    · rw [h1] at f5
      have hp : p < 100 := by have := HD.out.1.ins p h2; omega
      have hp64 : (p : Int) < 100 := by omega
      have hpn : ((p : Int) != -1) = true := by rw [bne_iff_ne]; omega
      have hpn2 : ((p : Int) == -1) = false := by rw [beq_eq_false_iff_ne]; omega
      have HN := Lib.hid (hI.out.2.2.1.step h2 h3 h4 (HD.out.2 p x h3))
      obtain ⟨r, hr⟩ : ∃ r, r = (R p x).getD 0 := ⟨_, rfl⟩
      rw [← hr] at HN
      have hlk : (Instr.lookup 106 (.map (some bm)) (.agg #[.int .i64 p, .int .i64 x]) false).run Try.prog wr.drew = .ok (.int .i64 r) wr.drew := by
        rw [hr]; exact ((HW.out.on hI.out.1).on (Below.refl _ wr).drew).rm.lookup (by omega) (by omega)
      have hC : (fun W => W.cell? ⟨bf, 4, none⟩ = some (.map (some bm)) ∧ W.cell? ⟨bf, 105 + x, none⟩ = some (.int .i64 p) ∧ (Instr.lookup 106 (.map (some bm)) (.agg #[.int .i64 p, .int .i64 x]) false).run Try.prog W = .ok (.int .i64 r) W) wr.drew := ⟨f4, f5, hlk⟩
      have HPX := Lib.hid (And.intro h2 h4)
      have HFX := Lib.hid h1
      clear h1 h2 h3 h4 hr hlk
      go_wp2_with fail
      refine Lim.regC' (fun W => W.cell? ⟨bf, 4, none⟩ = some (.map (some bm)) ∧ W.cell? ⟨bf, 105 + x, none⟩ = some (.int .i64 p) ∧ (Instr.lookup 106 (.map (some bm)) (.agg #[.int .i64 p, .int .i64 x]) false).run Try.prog W = .ok (.int .i64 r) W) [] #[false, false, false, false, false, false, false, false, false, false, false, false, false, false, false, false] (by kernel_rfl) rfl ?_
      refine Lim.stepR 0 (fun _ => trivial) rfl (by kernel_rfl) (fun _ _ _ _ h => h) hC rfl ?_; apply Exists.intro; refine ⟨?_, ?_⟩
      · rintro w ⟨r1, r2, r3⟩; go_simp; try with_reducible rfl
      simp only [Act.put, List.setIfInBounds_toArray, List.set_cons_succ, List.set_cons_zero]
      refine Lim.stepR 1 (fun _ => trivial) rfl (by kernel_rfl) (fun _ _ _ _ h => h) hC rfl ?_; apply Exists.intro; refine ⟨?_, ?_⟩
      · rintro w ⟨r1, r2, r3⟩; go_simp; try with_reducible rfl
      simp only [Act.put, List.setIfInBounds_toArray, List.set_cons_succ, List.set_cons_zero]
      refine Lim.stepR 2 (fun _ => trivial) rfl (by kernel_rfl) (fun _ _ _ _ h => h) hC rfl ?_; apply Exists.intro; refine ⟨?_, ?_⟩
      · rintro w ⟨r1, r2, r3⟩; go_simp; try with_reducible rfl
      simp only [Act.put, List.setIfInBounds_toArray, List.set_cons_succ, List.set_cons_zero]
      refine Lim.stepR 3 (fun _ => trivial) rfl (by kernel_rfl) (fun _ _ _ _ h => h) hC rfl ?_; apply Exists.intro; refine ⟨?_, ?_⟩
      · rintro w ⟨r1, r2, r3⟩; go_simp; try with_reducible rfl
      simp only [Act.put, List.setIfInBounds_toArray, List.set_cons_succ, List.set_cons_zero]
      refine Lim.stepR 4 (fun _ => trivial) rfl (by kernel_rfl) (fun _ _ _ _ h => h) hC rfl ?_; apply Exists.intro; refine ⟨?_, ?_⟩
      · rintro w ⟨r1, r2, r3⟩; go_simp; try with_reducible rfl
      simp only [Act.put, List.setIfInBounds_toArray, List.set_cons_succ, List.set_cons_zero]
      refine Lim.stepR 5 (fun _ => trivial) rfl (by kernel_rfl) (fun _ _ _ _ h => h) hC rfl ?_; apply Exists.intro; refine ⟨?_, ?_⟩
      · rintro w ⟨r1, r2, r3⟩; go_simp; try with_reducible rfl
      simp only [Act.put, List.setIfInBounds_toArray, List.set_cons_succ, List.set_cons_zero]
      refine Lim.stepR 6 (fun _ => trivial) rfl (by kernel_rfl) (fun _ _ _ _ h => h) hC rfl ?_; apply Exists.intro; refine ⟨?_, ?_⟩
      · rintro w ⟨r1, r2, r3⟩; go_simp; try with_reducible rfl
      simp only [Act.put, List.setIfInBounds_toArray, List.set_cons_succ, List.set_cons_zero]
      refine Lim.stepR 7 (fun _ => trivial) rfl (by kernel_rfl) (fun _ _ _ _ h => h) hC rfl ?_; apply Exists.intro; refine ⟨?_, ?_⟩
      · rintro w ⟨r1, r2, r3⟩; go_simp; try with_reducible rfl
      simp only [Act.put, List.setIfInBounds_toArray, List.set_cons_succ, List.set_cons_zero]
      refine Lim.stepR 8 (fun _ => trivial) rfl (by kernel_rfl) (fun _ _ _ _ h => h) hC rfl ?_; apply Exists.intro; refine ⟨?_, ?_⟩
      · rintro w ⟨r1, r2, r3⟩; go_simp; try with_reducible rfl
      simp only [Act.put, List.setIfInBounds_toArray, List.set_cons_succ, List.set_cons_zero]
      refine Lim.stepR 9 (fun _ => trivial) rfl (by kernel_rfl) (fun _ _ _ _ h => h) hC rfl ?_; apply Exists.intro; refine ⟨?_, ?_⟩
      · rintro w ⟨r1, r2, r3⟩; go_simp; try with_reducible rfl
      simp only [Act.put, List.setIfInBounds_toArray, List.set_cons_succ, List.set_cons_zero]
      refine Lim.stepR 10 (fun _ => trivial) rfl (by kernel_rfl) (fun _ _ _ _ h => h) hC rfl ?_; apply Exists.intro; refine ⟨?_, ?_⟩
      · rintro w ⟨r1, r2, r3⟩; go_simp; try with_reducible rfl
      simp only [Act.put, List.setIfInBounds_toArray, List.set_cons_succ, List.set_cons_zero]
      refine Lim.stepR 11 (fun _ => trivial) rfl (by kernel_rfl) (fun _ _ _ _ h => h) hC rfl ?_; apply Exists.intro; refine ⟨?_, ?_⟩
      · rintro w ⟨r1, r2, r3⟩; go_simp; try with_reducible rfl
      simp only [Act.put, List.setIfInBounds_toArray, List.set_cons_succ, List.set_cons_zero]
      refine Lim.stepR 12 (fun _ => trivial) rfl (by kernel_rfl) (fun _ _ _ _ h => h) hC rfl ?_; apply Exists.intro; refine ⟨?_, ?_⟩
      · rintro w ⟨r1, r2, r3⟩; go_simp; try with_reducible rfl
      simp only [Act.put, List.setIfInBounds_toArray, List.set_cons_succ, List.set_cons_zero]
      refine Lim.stepR 13 (fun _ => trivial) rfl (by kernel_rfl) (fun _ _ _ _ h => h) hC rfl ?_; apply Exists.intro; refine ⟨?_, ?_⟩
      · rintro w ⟨r1, r2, r3⟩; go_simp; try with_reducible rfl
      simp only [Act.put, List.setIfInBounds_toArray, List.set_cons_succ, List.set_cons_zero]
      refine Lim.stepR 14 (fun _ => trivial) rfl (by kernel_rfl) (fun _ _ _ _ h => h) hC rfl ?_; apply Exists.intro; refine ⟨?_, ?_⟩
      · rintro w ⟨r1, r2, r3⟩; go_simp; try with_reducible rfl
      simp only [Act.put, List.setIfInBounds_toArray, List.set_cons_succ, List.set_cons_zero]
      refine Lim.stepR 15 (fun _ => trivial) rfl (by kernel_rfl) (fun _ _ _ _ h => h) hC rfl ?_; apply Exists.intro; refine ⟨?_, ?_⟩
      · rintro w ⟨r1, r2, r3⟩; go_simp; try with_reducible rfl
      simp only [Act.put, List.setIfInBounds_toArray, List.set_cons_succ, List.set_cons_zero]
      refine Lim.stepD (by kernel_rfl) ?_
      have HA2 : Hid (Below w.heap.size w wr.drew ∧ wr.drew.ownsRow w.heap.size 3 1 u6 L.length (ints (L.reverse.map Int.ofNat)) ∧ L.length ≤ 101) := Lib.hid ⟨hI.out.1.drew, hI.out.2.1, by have := hI.out.2.2.1.len; have := HT.out; omega⟩
      have HI2 := Lib.hid hI.out.2.2
      clear hC hI f4 f5
      generalize wr.drew = w5 at HA2 ⊢
      have f5 := HA2.out.1.on (HW.out.fr x hx).1
      rw [HFX.out] at f5
      go_wp2_with (at_builtin; refine wpList_append_own _ rfl _ _ 22 rfl w.heap.size 3 i0 (.int .i64 0) 1 8 Try.underlying22 HF.out.1 HF.out.2.1 HF.out.2.2.1 HF.out.2.2.2 rfl (by decide) _ _ _ rfl (HA2.out.2.1.alloc _) ⟨w5.heap.size, 0, none⟩ 1 1 [.int .i64 p] rfl rfl (cell_one_new _ _ _) (by simp [Value.oneCell']) (by have := HA2.out.2.2; unfold maxLen; omega) (by have := HA2.out.2.2; omega) (by have := HA2.out.1.size; simp; omega) ?_; intro v7 w7 hown7 hgrow _; have hb7 : Below w.heap.size w w7 := (HA2.out.1.trans (((Below.refl _ w5).alloc (Nat.le_refl _) _).mono HA2.out.1.size)).grown hgrow (Nat.le_trans HA2.out.1.size (by simp)) (fun x hx => by { have := (HA2.out.2.1.lt x hx).1; omega }); have HW7 := Lib.hid (And.intro hb7 hown7); clear hown7 hgrow hb7; clear f5; have f5 := HW7.out.1.on (HW.out.fr x hx).1; rw [HFX.out] at f5)
      go_roundw
      case rel =>
        refine ⟨p, p :: L, min k r, rfl, rfl, hp, Lib.hid ⟨HW7.out.1, ?_, HN.out, HPX.out.1⟩⟩
        have := HW7.out.2
        simpa [ints] using this
      case measure => simp [intOf]; exact HPX.out.2
end Go.Proofs.Ytkjcnkkmhkcddaa
