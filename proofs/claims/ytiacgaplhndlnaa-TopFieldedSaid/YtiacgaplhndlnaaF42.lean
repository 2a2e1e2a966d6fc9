/-
  Parts of the proof, in the order in which they build: CoG.
-/
import Derived.Test.YtiacgaplhndlnaaF41
set_option linter.unusedVariables false
set_option linter.unusedSimpArgs false
namespace Go.Proofs.Ytiacgaplhndlnaa
open Go.RowKit Go.Shelf
open Lim
attribute [local go_sem] Oper.semAt_some

theorem Cs.put {B q2 q3 b n p : Nat} {sv v : Value} {S : List (Nat × Nat)} {w : World} (h : Cs B q2 q3 b n sv S w) (h2 : q2 ≠ p) (h3 : q3 ≠ p) (hb : b ≠ p) (hB : B ≤ p) : Cs B q2 q3 b n sv S (w.setCell ⟨p, 0, none⟩ v) := by
  have hs := Sep.set w p 0 v
  exact ⟨hs.cell h.n3 h3, hs.cell h.d2 h2, hs.cell h.s1 hb, hs.cell h.su hb, h.r.below (hs.below h.B (fun k e => by omega)), Nat.le_trans h.B hs.size⟩
def nxG (R : List Int) (m x : Int) : Int := if m < fdg R x.toNat + 1 then fdg R x.toNat + 1 else m
def nxL (R : List Int) (l : List Int) (m : Int) : Int := l.foldl (nxG R) m
theorem nxL_snoc (R l : List Int) (x m : Int) : nxL R (l ++ [x]) m = nxG R (nxL R l m) x := by simp [nxL]
theorem nxL_all (R : List Int) (n : Nat) : ∀ (S : List (Nat × Nat)) (m : Int), nxL R (strkL S n) m = nxtR R n S m
  | [], m => rfl
  | s :: S, m => by
    unfold nxtR
    rw [← nxL_all R n S]
    by_cases h : s.2 = n
    · have e : strkL (s :: S) n = ((s.1 : Nat) : Int) :: strkL S n := by simp [strkL, List.filter, h]
      rw [e, if_pos h]
      rfl
    · have e : strkL (s :: S) n = strkL S n := by simp [strkL, List.filter, h]
      rw [e, if_neg h]
theorem nxL_range {R : List Int} (hR : ∀ k, 0 ≤ fdg R k ∧ fdg R k ≤ 1000) : ∀ (l : List Int) (m : Int), 1 ≤ m ∧ m ≤ 1001 → 1 ≤ nxL R l m ∧ nxL R l m ≤ 1001
  | [], m, h => h
  | x :: l, m, h => by
    show 1 ≤ nxL R l (nxG R m x) ∧ nxL R l (nxG R m x) ≤ 1001
    refine nxL_range hR l _ ?_
    have := hR x.toNat
    unfold nxG
    split <;> omega
set_option maxRecDepth 20000 in
set_option maxHeartbeats 2000000 in
theorem next_any {B b C n sc : Nat} {sa : Option Addr} {S : List (Nat × Nat)} {F R : List Int} {w : World} (hn : n < 14) (hd : DeskW B b C sa sc S F R w) (hR : ∀ k, 0 ≤ fdg R k ∧ fdg R k ≤ 1000) :
    Calls Try.prog 91 #[.pointer (some ⟨b, 0, none⟩), .int .i64 n] w fun e w' => e = .returned (.int .i64 (nxtR R n S 1)) ∧ Below w.heap.size w w' := by
  refine (callsIn_wide (n := 2)).1 (callsIn_of_wp_marks Try.func91 rfl trivial ?_ rfl)
  simp only [Try.ntmps91, List.size_toArray, List.length_cons, List.length_nil, Nat.reduceAdd, Nat.reduceSub, Array.replicate_succ, Array.replicate_zero, List.push_toArray, List.append_toArray, List.nil_append, List.cons_append]
  refine wpIn_wide.2 ?_
  have HR := Lib.hid hR
  clear hR
  go_wp2_with (go_at_call 92; refine (striking_any _ _ _).mono ?_; rintro e w' ⟨rfl, rfl⟩)
  have hbw := hd.d.lt
  generalize hW : World.alloc _ _ = W0
  have hsz : w.heap.size + 4 = W0.heap.size := by rw [← hW]; simp
  have hB0 : Below w.heap.size w W0 := by rw [← hW]; exact ((((Below.refl _ w).alloc (Nat.le_refl _) _).alloc (by simp) _).alloc (by simp; omega) _).alloc (by simp; omega) _
  have f0 : W0.cell? ⟨w.heap.size, 0, none⟩ = some (.pointer (some ⟨b, 0, none⟩)) := by rw [← hW]; simp [go_sem]
  have f2 : W0.cell? ⟨w.heap.size + 1, 0, none⟩ = some (.int .i64 1) := by rw [← hW]; simp [go_sem]
  have f3 : W0.frozen? ⟨w.heap.size + 1, 0, none⟩ = false := by rw [← hW]; simp [go_sem]
  have f4 : W0.cell? ⟨w.heap.size + 1 + 1, 0, none⟩ = some (.pointer (some ⟨b, 0, none⟩)) := by rw [← hW]; simp [go_sem]
  have f5 : W0.cell? ⟨w.heap.size + 1 + 1 + 1, 0, none⟩ = some (.int .i64 n) := by rw [← hW]; simp [go_sem]
  have hD := hd.on hB0
  have hCn := hD.cs hn f4 f5
  clear hW
  refine wp_range (xs := strkL S n) rfl (enters_of Try.func138 (by kernel_rfl) rfl) (Cs B (w.heap.size + 1 + 1) (w.heap.size + 1 + 1 + 1) b n (.slice sa S.length sc) S)
    (striking_iter hn hd.k.l hCn)
    (fun pre W => Cs B (w.heap.size + 1 + 1) (w.heap.size + 1 + 1 + 1) b n (.slice sa S.length sc) S W ∧ W.cell? ⟨w.heap.size, 0, none⟩ = some (.pointer (some ⟨b, 0, none⟩)) ∧
      W.cell? ⟨w.heap.size + 1, 0, none⟩ = some (.int .i64 (nxL R pre 1)) ∧ W.frozen? ⟨w.heap.size + 1, 0, none⟩ = false ∧ Below w.heap.size w W)
    (fun _ _ _ => False)
    (fun _ _ h => h.1) (fun _ _ h hs => h.steady hs) ?sI ?sX ⟨hCn, f0, f2, f3, hB0⟩
    (fun x => { tmps := #[.pointer (some ⟨b, 0, none⟩), .int .i64 n, .pointer (some ⟨w.heap.size, 0, none⟩), undef, .int .i64 0, .pointer (some ⟨w.heap.size + 1, 0, none⟩), .int .i64 x,
      .pointer (some ⟨b, 0, none⟩), .int .i64 n, .func (.func 138) #[] #[.pointer (some ⟨w.heap.size + 1 + 1, 0, none⟩), .pointer (some ⟨w.heap.size + 1 + 1 + 1, 0, none⟩)], .int .i64 x,
      undef, undef, undef, undef, undef, undef, undef, undef, undef, undef], defers := [] }) ?assign ?body ?done ?stop
  case sI => exact fun _ _ _ h hs => ⟨h.1.steady hs, hs.cell h.2.1, hs.cell h.2.2.1, (hs.frozen h.2.2.1).trans h.2.2.2.1, h.2.2.2.2.steady hs (by omega) h.2.2.2.2.size⟩
  case sX => exact fun _ _ _ _ h _ => h.elim
  case assign =>
    intro l x W K hK
    gi_wp2
    exact hK
  case body =>
    rintro l pre x W hx ⟨iC, i1, i3, i4, iB⟩
    obtain ⟨k, rfl, hk14, hkS⟩ := hd.mem hx
    have hk14' : (k : Int) < 14 := by omega
    have hcell : W.cell? ⟨b, 45 + k, none⟩ = some (.int .i64 (fdg R k)) := cell_below iB (hd.d.ra k hk14) hbw
    have hvr := HR.out k
    have hmr := nxL_range HR.out pre 1 (by omega)
    have HN : Hid (nxL R (pre ++ [(k : Int)]) 1 = if nxL R pre 1 < fdg R k + 1 then fdg R k + 1 else nxL R pre 1) := Lib.hid (by rw [nxL_snoc]; rfl)
    obtain ⟨v, hv⟩ : ∃ v, v = fdg R k := ⟨_, rfl⟩
    obtain ⟨m, hm⟩ : ∃ m, m = nxL R pre 1 := ⟨_, rfl⟩
    rw [← hv] at hcell hvr HN
    rw [← hm] at i3 hmr HN
    obtain ⟨v1, hv1⟩ : ∃ v1, v1 = v + 1 := ⟨_, rfl⟩
    have ew : IntKind.i64.wrap (v + 1) = v1 := by rw [hv1]; exact IntWalk.i64_in _ (by omega)
    rw [← hv1] at HN
    have IB := Lib.hid iB
    have IC := Lib.hid iC
    clear hx hCn f0 f2 f3 f4 f5 hv hm hv1 hvr hmr iB iC
    refine wpIn_block ?_
    have hC : (fun W => W.cell? ⟨w.heap.size, 0, none⟩ = some (.pointer (some ⟨b, 0, none⟩)) ∧ W.cell? ⟨b, 45 + k, none⟩ = some (.int .i64 v) ∧ W.cell? ⟨w.heap.size + 1, 0, none⟩ = some (.int .i64 m)) W.drew := ⟨i1, hcell, i3⟩
    refine Lim.regC (fun W => W.cell? ⟨w.heap.size, 0, none⟩ = some (.pointer (some ⟨b, 0, none⟩)) ∧ W.cell? ⟨b, 45 + k, none⟩ = some (.int .i64 v) ∧ W.cell? ⟨w.heap.size + 1, 0, none⟩ = some (.int .i64 m)) [9] #[false, false, false, false, false, false, false, false, false, false] (by kernel_rfl) rfl ?_
    refine Lim.stepR 0 (fun _ => trivial) rfl (by kernel_rfl) (fun _ _ _ _ h => h) hC rfl ?_; apply Exists.intro; refine ⟨?_, ?_⟩
    · rintro w ⟨r1, r2, r3⟩; go_simp; try with_reducible rfl
    simp only [Act.put, List.setIfInBounds_toArray, List.set_cons_succ, List.set_cons_zero]
    refine Lim.stepR 1 (fun _ => trivial) rfl (by kernel_rfl) (fun _ _ _ _ h => h) hC rfl ?_; apply Exists.intro; refine ⟨?_, ?_⟩
    · rintro w ⟨r1, r2, r3⟩; go_simp; try with_reducible rfl
    simp only [Act.put, List.setIfInBounds_toArray, List.set_cons_succ, List.set_cons_zero]
    refine Lim.stepR 2 (fun _ => trivial) rfl (by kernel_rfl) (fun _ _ _ _ h => h) hC rfl ?_; apply Exists.intro; refine ⟨?_, ?_⟩
    · rintro w ⟨r1, r2, r3⟩; go_simp; try with_reducible rfl
    simp only [Act.put, List.setIfInBounds_toArray, List.set_cons_succ, List.set_cons_zero]
    refine Lim.stepR 3 (fun _ => trivial) rfl (by kernel_rfl) (fun _ _ _ _ h => h) hC rfl ?_; apply Exists.intro; refine ⟨?_, ?_⟩
    · rintro w ⟨r1, r2, r3⟩; go_simp; try with_reducible rfl
    simp only [Act.put, List.setIfInBounds_toArray, List.set_cons_succ, List.set_cons_zero]
    refine Lim.stepR 4 (fun _ => trivial) rfl (by kernel_rfl) (fun _ _ _ _ h => h) hC rfl ?_; apply Exists.intro; refine ⟨?_, ?_⟩
    · rintro w ⟨r1, r2, r3⟩; go_simp; try with_reducible rfl
    simp only [Act.put, List.setIfInBounds_toArray, List.set_cons_succ, List.set_cons_zero]
    refine Lim.stepR 5 (fun _ => trivial) rfl (by kernel_rfl) (fun _ _ _ _ h => h) hC rfl ?_; apply Exists.intro; refine ⟨?_, ?_⟩
    · rintro w ⟨r1, r2, r3⟩; go_simp; try with_reducible rfl
    simp only [Act.put, List.setIfInBounds_toArray, List.set_cons_succ, List.set_cons_zero]
    refine Lim.stepR 6 (fun _ => trivial) rfl (by kernel_rfl) (fun _ _ _ _ h => h) hC rfl ?_; apply Exists.intro; refine ⟨?_, ?_⟩
    · rintro w ⟨r1, r2, r3⟩; go_simp; try with_reducible rfl
    simp only [Act.put, List.setIfInBounds_toArray, List.set_cons_succ, List.set_cons_zero]
    refine Lim.stepR 7 (fun _ => trivial) rfl (by kernel_rfl) (fun _ _ _ _ h => h) hC rfl ?_; apply Exists.intro; refine ⟨?_, ?_⟩
    · rintro w ⟨r1, r2, r3⟩; go_simp; try with_reducible rfl
    simp only [Act.put, List.setIfInBounds_toArray, List.set_cons_succ, List.set_cons_zero]
    refine Lim.stepR 8 (fun _ => trivial) rfl (by kernel_rfl) (fun _ _ _ _ h => h) hC rfl ?_; apply Exists.intro; refine ⟨?_, ?_⟩
    · rintro w ⟨r1, r2, r3⟩; go_simp; try with_reducible rfl
    simp only [Act.put, List.setIfInBounds_toArray, List.set_cons_succ, List.set_cons_zero]
    refine Lim.stepX 9 (fun _ => trivial) rfl (by kernel_rfl) rfl rfl (fun K hK => ?_)
    go_simp
    refine hK _ _ ?_
    refine Lim.segC (fun _ => True) [] ?_
    refine Lim.stepD (by kernel_rfl) ?_
    exact ⟨(KeepsOthers.trans (KeepsOthers.setCell W _ _) (KeepsOthers.drew _)).from _, (IC.out.put (by omega) (by omega) (by omega) (by have := hd.sB; omega)).on (Below.refl _ _).drew, (Sep.set W (w.heap.size + 1) 0 _).cell i1 (by omega), by rw [HN.out]; exact World.cell?_setCell_same' _ _ _ (by rw [i3]; rfl), (World.frozen?_setCell ..).trans i4, ((IB.out).setCell (p := ⟨w.heap.size + 1, 0, none⟩) (by simp) _).drew⟩
  case done =>
    rintro D W hD ⟨iC, i1, i3, i4, iB⟩ hDk
    go_wp2
    refine leaves_marks (B := W0.heap.size) _ ⟨[D], rfl, by simp, by simpa using ⟨hD, hDk⟩⟩ (fun w' hs => ⟨.int .i64 (nxL R (strkL S n) 1), ?_, by rw [nxL_all], ?_⟩)
    · simp [results, Try.f91, go_sem]
    · exact iB.steady hs (by omega) iB.size
  case stop =>
    rintro D j pre W hD hpre h hDk
    exact h.elim
end Go.Proofs.Ytiacgaplhndlnaa
