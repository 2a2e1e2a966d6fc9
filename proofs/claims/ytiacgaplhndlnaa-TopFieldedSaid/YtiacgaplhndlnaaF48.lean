/-
  Parts of the proof, in the order in which they build: CoN, CoP.
-/
import Derived.BigQuiet
import Derived.Test.YtiacgaplhndlnaaF36
import Derived.Test.YtiacgaplhndlnaaF47
import Derived.Test.YtiacgaplhndlnaaF25
set_option linter.unusedVariables false
set_option linter.unusedSimpArgs false
/-
  What lies in something strikes by what is around it: the award of a forest, in plain words.
-/
namespace Go.Proofs.Ytiacgaplhndlnaa

/-- what is around each (-1: nothing), and how deep it lies -/
structure Nst (C : Nat) (A : Nat → Int) (d : Nat → Nat) : Prop where
  top : ∀ i, i < C → A i = -1 → d i = 0
  nin : ∀ i, i < C → ∀ a : Nat, A i = a → a < C ∧ d i = d a + 1
  or : ∀ i, i < C → A i = -1 ∨ ∃ a : Nat, A i = a
  lt : ∀ i, i < C → d i < C
def nstS (A : Nat → Int) : Nat → List (Nat × Nat)
  | 0 => []
  | k + 1 => nstS A k ++ (if A k = -1 then [] else [((A k).toNat, k)])
theorem mem_nstS {A : Nat → Int} {b n : Nat} : ∀ {k : Nat}, (b, n) ∈ nstS A k ↔ n < k ∧ A n ≠ -1 ∧ b = (A n).toNat
  | 0 => by simp [nstS]
  | k + 1 => by
    rw [nstS, List.mem_append, mem_nstS]
    constructor
    · rintro (⟨h1, h2, h3⟩ | h)
      · exact ⟨by omega, h2, h3⟩
      · split at h
        · cases h
        · rename_i hk
          have e := List.mem_singleton.1 h
          simp only [Prod.mk.injEq] at e
          rw [e.1, e.2]
          exact ⟨by omega, hk, rfl⟩
    · rintro ⟨h1, h2, h3⟩
      by_cases e : n = k
      · subst e; rw [if_neg h2]; exact .inr (by simp [h3])
      · exact .inl ⟨by omega, h2, h3⟩
theorem nstS_length (A : Nat → Int) : ∀ k, (nstS A k).length ≤ k
  | 0 => Nat.le_refl _
  | k + 1 => by
    rw [nstS, List.length_append]
    have := nstS_length A k
    split <;> simp <;> omega
theorem nstS_nodup (A : Nat → Int) : ∀ k, (nstS A k).Nodup
  | 0 => List.Pairwise.nil
  | k + 1 => by
    rw [nstS]
    refine List.pairwise_append.2 ⟨nstS_nodup A k, ?_, ?_⟩
    · split
      · exact List.Pairwise.nil
      · exact List.pairwise_singleton _ _
    · intro x hx y hy e
      split at hy
      · cases hy
      · have e2 := List.mem_singleton.1 hy
        rw [e, e2] at hx
        have := (mem_nstS.1 hx).1
        omega
def nstG (d : Nat → Nat) (C : Nat) : List Int := (List.range C).map fun n => ((1 + d n % 2 : Nat) : Int)
def nstT (d : Nat → Nat) (C : Nat) : List Int := (List.range C).map fun n => ((d n + 1 : Nat) : Int)
theorem fdg_map {f : Nat → Int} {C n : Nat} : fdg ((List.range C).map f) n = if n < C then f n else 0 := by
  unfold fdg
  rw [List.getD_eq_getElem?_getD, List.getElem?_map]
  by_cases h : n < C
  · rw [List.getElem?_range h, if_pos h]; rfl
  · rw [List.getElem?_eq_none (by simpa using Nat.le_of_not_lt h), if_neg h]; rfl
theorem nst_par {C : Nat} {A : Nat → Int} {d : Nat → Nat} (h : Nst C A d) {b n : Nat} (hb : (b, n) ∈ nstS A C) : n < C ∧ b < C ∧ d n = d b + 1 := by
  obtain ⟨h1, h2, h3⟩ := mem_nstS.1 hb
  rcases h.or n h1 with e | ⟨a, e⟩
  · exact absurd e h2
  · have h4 := h.nin n h1 a e
    have : b = a := by rw [h3, e]; rfl
    rw [this]
    exact ⟨h1, h4⟩
theorem nst_odd {C : Nat} {A : Nat → Int} {d : Nat → Nat} (h : Nst C A d) {n : Nat} (hn : n < C) (ho : d n ≠ 0) : ∃ b, (b, n) ∈ nstS A C := by
  rcases h.or n hn with e | ⟨a, e⟩
  · exact absurd (h.top n hn e) ho
  · exact ⟨a, mem_nstS.2 ⟨hn, by rw [e]; omega, by rw [e]; rfl⟩⟩
theorem nst_sound {C : Nat} {A : Nat → Int} {d : Nat → Nat} (h : Nst C A d) : Sound (nstS A C) (nstG d C) (nstT d C) := by
  unfold nstG nstT
  refine ⟨fun n => ?_, fun n h1 b hb => ?_, fun n h2 => ?_, fun n => ?_⟩
  · rw [fdg_map]; split <;> omega
  · obtain ⟨hn, hb', e⟩ := nst_par h hb
    rw [fdg_map, if_pos hn] at h1
    rw [fdg_map, fdg_map, fdg_map, if_pos hn, if_pos hb']
    omega
  · rw [fdg_map] at h2
    split at h2
    · rename_i hn
      obtain ⟨b, hb⟩ := nst_odd h hn (fun e => by rw [e] at h2; omega)
      obtain ⟨-, hb', e⟩ := nst_par h hb
      refine ⟨b, hb, ?_⟩
      rw [fdg_map, fdg_map, fdg_map, if_pos hn, if_pos hb']
      omega
    · omega
  · rw [fdg_map]; split <;> omega
theorem nst_stuck {C : Nat} {A : Nat → Int} {d : Nat → Nat} {n : Nat} (hn : n < C) : Stuck (nstS A C) (nstG d C) n := by
  intro e
  unfold nstG at e
  rw [fdg_map, if_pos hn] at e
  omega
/-- an award is the list that is sound and full -/
theorem award_is {S : List (Nat × Nat)} {C : Nat} {F R G T : List Int} (hS : ∀ s ∈ S, s.1 < C) (hC : C ≤ 14) (hF : Court S C F R) (fF : ∀ n, n < C → Stuck S F n) (hl : G.length = C) (hG : Sound S G T) (fG : ∀ n, n < C → Stuck S G n) : F.take C = G := by
  have hlen : (F.take C).length = C := by rw [List.length_take, hF.f14]; omega
  refine List.ext_getElem (by omega) fun n h1 h2 => ?_
  have h := Sound.unique hS hF.s hG fF fG (n := n) (by omega)
  unfold fdg at h
  rw [List.getD_eq_getElem?_getD, List.getD_eq_getElem?_getD, List.getElem?_eq_getElem (by rw [hF.f14]; omega), List.getElem?_eq_getElem h2] at h
  rw [List.getElem_take]
  exact h
theorem two_sound : Sound [(0, 1)] [1, 2] [1, 2] := by
  have e : ∀ n, fdg [1, 2] n = if n = 0 then 1 else if n = 1 then 2 else 0 := fun n => by
    match n with
    | 0 => rfl
    | 1 => rfl
    | n + 2 => rfl
  refine ⟨fun n => by rw [e]; split <;> (try split) <;> omega, fun n h1 b hb => ?_, fun n h2 => ?_, fun n => by rw [e]; split <;> (try split) <;> omega⟩
  · have e2 := List.mem_singleton.1 hb
    simp only [Prod.mk.injEq] at e2
    rw [e2.2] at h1
    exact absurd h1 (by decide)
  · rw [e] at h2
    split at h2
    · omega
    · split at h2
      · rename_i h; subst h
        exact ⟨0, by simp, rfl, by decide⟩
      · omega
theorem two_stuck : ∀ n, n < 2 → Stuck [(0, 1)] [1, 2] n := by
  intro n hn e
  have : n = 0 ∨ n = 1 := by omega
  rcases this with rfl | rfl <;> exact absurd e (by decide)
end Go.Proofs.Ytiacgaplhndlnaa
/-
  slices.Equal of numbers; awake13 answers true.
-/
namespace Go.Proofs.Ytiacgaplhndlnaa
open Go Go.RowKit Go.Shelf
open Lim
attribute [local go_sem] Oper.semAt_some

set_option maxRecDepth 20000 in
set_option maxHeartbeats 1000000 in
/-- two equal lists -/
theorem sequal_any {B : Nat} {v u : Value} {l : List Int} {w : World} (hl : l.length ≤ 100000) (hv : RS B w v l.length (ints l)) (hu : RS B w u l.length (ints l)) :
    Calls Try.prog 14 #[v, u] w fun e w' => e = .returned (.bool true) ∧ Below w.heap.size w w' := by
  have HV := Lib.hid (And.intro hv hu)
  obtain ⟨va, vc, rfl, -⟩ := hv
  obtain ⟨ua, uc, rfl, -⟩ := hu
  go_enter Try.func14, Try.ntmps14
  go_wp2_with fail
  go_loopw [13] (fun iv W => ∃ k : Nat, k ≤ l.length ∧ iv = .int .i64 k ∧ Hid (Below w.heap.size w W)) (fun iv _ => l.length - (intOf iv).toNat)
  case atStart => exact ⟨0, Nat.zero_le _, rfl, Lib.hid (Below.refl _ _)⟩
  case round =>
    obtain ⟨k, hk, rfl, hI⟩ := hrel
    by_cases hlt : k < l.length
    · have hlt' : (k : Int) < l.length := by omega
      obtain ⟨g, o, rfl, c1⟩ := cell_of_RS (p := k) HV.out.1 hlt
      obtain ⟨g2, o2, rfl, c2⟩ := cell_of_RS (p := k) HV.out.2 hlt
      obtain ⟨y, hy⟩ : ∃ y, y = l.getD k 0 := ⟨_, rfl⟩
      rw [← hy] at c1 c2
      replace c1 := hI.out.on c1
      replace c2 := hI.out.on c2
      have t1 : (y != y) = false := by simp
      have hk64 : (k : Int) ≤ 100000 := by omega
      clear hy
      go_wp2_with fail
      go_quiet (fail)
      go_wp2_with fail
      go_roundw
      case rel => exact ⟨k + 1, by omega, by go_num, Lib.hid (below_drewN hI.out _)⟩
      case measure => simp [intOf]; omega
    · have hlt' : ¬ (k : Int) < l.length := by omega
      go_wp2_with fail
      go_ret
      exact ⟨rfl, hI.out⟩
set_option maxRecDepth 20000 in
set_option maxHeartbeats 1000000 in
theorem awake13_any (w : World) : Calls Try.prog 11 #[] w fun e w' => e = .returned (.bool true) ∧ Below w.heap.size w w' := by
  have hb0 := (Below.refl _ w).alloc (Nat.le_refl _) (.cells #[.int .i64 0, .int .i64 1] 38)
  have HB0 := Lib.hid hb0
  have hg := heap_alloc_new w (.cells #[.int .i64 0, .int .i64 1] 38)
  have hrs : RS (w.alloc (.cells #[.int .i64 0, .int .i64 1] 38)).heap.size (w.alloc (.cells #[.int .i64 0, .int .i64 1] 38)) (.slice (some ⟨w.heap.size, 0, none⟩) 1 1) [((0 : Nat), (1 : Nat))].length (spans (stk [(0, 1)])) :=
    ⟨_, _, rfl, fun _ => ⟨w.heap.size, 0, rfl, by simp, fun j u hj => by
      have hc : ∀ k, (w.alloc (.cells #[.int .i64 0, .int .i64 1] 38)).cell? ⟨w.heap.size, k, none⟩ = (#[.int .i64 0, .int .i64 1] : Array Value)[k]? := fun k => by simp only [World.cell?, hg]; rfl
      rw [Nat.zero_add, hc]
      simpa [spans, stk] using hj⟩⟩
  have hok : CaseOk 2 [(0, 1)] := ⟨by omega, by simp, fun s hs => by rw [List.mem_singleton.1 hs]; decide, List.pairwise_singleton _ _⟩
  have CA := Lib.hid (Award_any hok (Nat.le_refl _) hrs)
  clear hb0 hg hrs hok
  go_enter Try.func11, Try.ntmps11
  generalize hW : w.alloc (.cells #[.int .i64 0, .int .i64 1] 38) = w1 at HB0 CA
  go_wp2_with fail
  refine CA.out.mono ?_
  rintro e w2 ⟨v, F, R, rfl, hc, hst, ho, hb⟩
  have e12 : F.take 2 = [1, 2] := award_is (fun s hs => by rw [List.mem_singleton.1 hs]; decide) (by omega) hc hst rfl two_sound two_stuck
  rw [e12] at ho
  have HB2 := Lib.hid (HB0.out.trans (hb.mono HB0.out.size))
  have HO := Lib.hid (RS.of_owns ho)
  obtain ⟨va, vc, rfl⟩ : ∃ a c, v = .slice a 2 c := by
    obtain ⟨a, c, e, -⟩ := HO.out
    exact ⟨a, c, e⟩
  clear hc hst ho hb e12 CA
  have hb3 := (Below.refl _ w2).alloc (Nat.le_refl _) (.cells #[.int .i64 1, .int .i64 2] 3)
  have HB3 := Lib.hid hb3
  have hg := heap_alloc_new w2 (.cells #[.int .i64 1, .int .i64 2] 3)
  have hrs : RS (w2.alloc (.cells #[.int .i64 1, .int .i64 2] 3)).heap.size (w2.alloc (.cells #[.int .i64 1, .int .i64 2] 3)) (.slice (some ⟨w2.heap.size, 0, none⟩) 2 2) [(1 : Int), 2].length (ints [1, 2]) :=
    ⟨_, _, rfl, fun _ => ⟨w2.heap.size, 0, rfl, by simp, fun j u hj => by
      have hc : ∀ k, (w2.alloc (.cells #[.int .i64 1, .int .i64 2] 3)).cell? ⟨w2.heap.size, k, none⟩ = (#[.int .i64 1, .int .i64 2] : Array Value)[k]? := fun k => by simp only [World.cell?, hg]; rfl
      rw [Nat.zero_add, hc]
      simpa [ints] using hj⟩⟩
  have CE := Lib.hid (sequal_any (l := [1, 2]) (by simp) ((HO.out.below hb3).mono hb3.size) hrs)
  clear hb3 hg hrs
  go_wp2_with fail
  refine CE.out.mono ?_
  rintro e w4 ⟨rfl, hb⟩
  have HB4 := Lib.hid (HB2.out.trans ((HB3.out.trans (hb.mono HB3.out.size)).mono HB2.out.size))
  clear hb CE
  go_wp2
  go_ret
  exact ⟨rfl, HB4.out⟩
end Go.Proofs.Ytiacgaplhndlnaa
