/-
  Parts of the proof, in the order in which they build: CoI.
-/
import Derived.ChangeKeysEq
import Derived.Test.YtiacgaplhndlnaaF43
import Derived.Test.YtiacgaplhndlnaaF9
set_option linter.unusedVariables false
set_option linter.unusedSimpArgs false
namespace Go.Proofs.Ytiacgaplhndlnaa
open Go Go.RowKit Go.Shelf
open Lim
attribute [local go_sem] Oper.semAt_some

theorem run_eqItems_ints (d : Nat) (xs ys : List Int) (w : World) : ∀ is : List Nat, (∀ i ∈ is, i < xs.length ∧ i < ys.length) →
    (Op.eqItems (d + 1) 3 1 (ints xs).toArray (ints ys).toArray is).run Try.prog w = .ok (is.all fun i => xs.getD i 0 == ys.getD i 0) w
  | [], _ => by simp [Op.eqItems]
  | i :: is, h => by
    have hi := h i (by simp)
    have ih := run_eqItems_ints d xs ys w is (fun j hj => h j (by simp [hj]))
    have p1 : (part 3 (ints xs).toArray (i * 1)).run Try.prog w = .ok (.int .i64 (xs.getD i 0)) w := by simp [part, ints, hi.1, go_sem]
    have p2 : (part 3 (ints ys).toArray (i * 1)).run Try.prog w = .ok (.int .i64 (ys.getD i 0)) w := by simp [part, ints, hi.2, go_sem]
    have p3 : ∀ a b : Int, (Op.equalIn (d + 1) 3 (.int .i64 a) (.int .i64 b)).run Try.prog w = .ok (a == b) w := fun a b => by
      simp [Op.equalIn, run_underlying Try.underlying3]
    simp only [Op.eqItems, Sem.run_bind, p1, p2, p3, Result.andThen_ok, List.all_cons]
    cases (xs.getD i 0 == ys.getD i 0)
    · simp
    · simpa using ih
set_option maxRecDepth 100000 in
theorem arr_eql (xs ys : List Int) (hx : xs.length = 14) (hy : ys.length = 14) (w : World) : (binOp .eql 109 (.agg (ints xs).toArray) (.agg (ints ys).toArray)).run Try.prog w = .ok (.bool (decide (xs = ys))) w := by
  obtain ⟨i0, hi, -, -, -⟩ := info_parts Try.infoInt
  unfold binOp
  simp only [Op.equal, Op.maxDepth, Sem.run_bind]
  rw [run_equalIn_array w 9999 _ _ Try.underlying109 hi, cellsIntT, run_eqItems_ints 9998 xs ys w (List.range 14) (fun i h => by have := List.mem_range.1 h; omega)]
  have e : ((List.range 14).all fun i => xs.getD i 0 == ys.getD i 0) = decide (xs = ys) := by
    rw [Bool.eq_iff_iff, List.all_eq_true, decide_eq_true_iff]
    constructor
    · intro h
      refine List.ext_getElem (by omega) (fun i h1 h2 => ?_)
      have := h i (List.mem_range.2 (by omega))
      rw [beq_iff_eq, List.getD_eq_getElem?_getD, List.getD_eq_getElem?_getD, List.getElem?_eq_getElem h1, List.getElem?_eq_getElem h2] at this
      exact this
    · rintro rfl i _
      simp
  rw [e]
  simp
/-- fourteen numbers, one by one -/
theorem ints14 {F : List Int} (h : F.length = 14) : (ints F).toArray = #[.int .i64 (fdg F 0), .int .i64 (fdg F 1), .int .i64 (fdg F 2), .int .i64 (fdg F 3), .int .i64 (fdg F 4), .int .i64 (fdg F 5), .int .i64 (fdg F 6), .int .i64 (fdg F 7), .int .i64 (fdg F 8), .int .i64 (fdg F 9), .int .i64 (fdg F 10), .int .i64 (fdg F 11), .int .i64 (fdg F 12), .int .i64 (fdg F 13)] := by
  match F, h with
  | [a0, a1, a2, a3, a4, a5, a6, a7, a8, a9, a10, a11, a12, a13], _ => rfl
/-- what award leaves: findings that are sound and full -/
def AwAns (B b C : Nat) (sa : Option Addr) (sc : Nat) (S : List (Nat × Nat)) (w : World) (e : Ending) (w' : World) : Prop :=
  e = .returned (.pointer (some ⟨b, 0, none⟩)) ∧ ∃ F R, DeskW B b C sa sc S F R w' ∧ Court S C F R ∧ (∀ n, n < C → Stuck S F n) ∧ Sep (fun k => k = b) w w'
set_option maxRecDepth 20000 in
set_option maxHeartbeats 4000000 in
theorem award_any {B b C sc : Nat} {sa : Option Addr} {S : List (Nat × Nat)} {F R : List Int} {w : World} (hd : DeskW B b C sa sc S F R w) (hc : Court S C F R) :
    Calls Try.prog 39 #[.pointer (some ⟨b, 0, none⟩)] w fun e w' => AwAns B b C sa sc S w e w' := by
  have HD := Lib.hid hd
  have HC := Lib.hid hc
  have hC14 : C ≤ 14 := hd.k.c.2
  clear hd hc
  go_enter Try.func39, Try.ntmps39
  go_wp2_with fail
  go_loopg [] (14 - nfd F) (fun gk W => ∃ F R, Hid (DeskW B b C sa sc S F R W ∧ Court S C F R ∧ Sep (fun k => k = b) w W ∧ nfd F + gk = 14))
  case atStart => exact ⟨F, R, Lib.hid ⟨HD.out, HC.out, Sep.refl _, by have h1 := nfd_le F; have h2 := HC.out.f14; omega⟩⟩
  case round =>
    clear HD HC F R
    obtain ⟨F, R, hI⟩ := hrel
    have g0 := hI.out.1.d.fo 0 (by omega)
    have g1 := hI.out.1.d.fo 1 (by omega)
    have g2 := hI.out.1.d.fo 2 (by omega)
    have g3 := hI.out.1.d.fo 3 (by omega)
    have g4 := hI.out.1.d.fo 4 (by omega)
    have g5 := hI.out.1.d.fo 5 (by omega)
    have g6 := hI.out.1.d.fo 6 (by omega)
    have g7 := hI.out.1.d.fo 7 (by omega)
    have g8 := hI.out.1.d.fo 8 (by omega)
    have g9 := hI.out.1.d.fo 9 (by omega)
    have g10 := hI.out.1.d.fo 10 (by omega)
    have g11 := hI.out.1.d.fo 11 (by omega)
    have g12 := hI.out.1.d.fo 12 (by omega)
    have g13 := hI.out.1.d.fo 13 (by omega)
    simp only [Nat.reduceAdd] at g0 g1 g2 g3 g4 g5 g6 g7 g8 g9 g10 g11 g12 g13
    have c0 := hI.out.1.d.c0
    have hbl := hI.out.1.d.lt
    have hb1 : Below wr.heap.size wr (wr.alloc (.cells #[.int .i64 (fdg F 0), .int .i64 (fdg F 1), .int .i64 (fdg F 2), .int .i64 (fdg F 3), .int .i64 (fdg F 4), .int .i64 (fdg F 5), .int .i64 (fdg F 6), .int .i64 (fdg F 7), .int .i64 (fdg F 8), .int .i64 (fdg F 9), .int .i64 (fdg F 10), .int .i64 (fdg F 11), .int .i64 (fdg F 12), .int .i64 (fdg F 13)] 109 (0, 0))) := (Below.refl _ wr).alloc (Nat.le_refl _) _
    have HW : Hid ((wr.alloc (.cells #[.int .i64 (fdg F 0), .int .i64 (fdg F 1), .int .i64 (fdg F 2), .int .i64 (fdg F 3), .int .i64 (fdg F 4), .int .i64 (fdg F 5), .int .i64 (fdg F 6), .int .i64 (fdg F 7), .int .i64 (fdg F 8), .int .i64 (fdg F 9), .int .i64 (fdg F 10), .int .i64 (fdg F 11), .int .i64 (fdg F 12), .int .i64 (fdg F 13)] 109 (0, 0))).heap[wr.heap.size]? = some (.cells #[.int .i64 (fdg F 0), .int .i64 (fdg F 1), .int .i64 (fdg F 2), .int .i64 (fdg F 3), .int .i64 (fdg F 4), .int .i64 (fdg F 5), .int .i64 (fdg F 6), .int .i64 (fdg F 7), .int .i64 (fdg F 8), .int .i64 (fdg F 9), .int .i64 (fdg F 10), .int .i64 (fdg F 11), .int .i64 (fdg F 12), .int .i64 (fdg F 13)] 109 (0, 0))) := Lib.hid (heap_alloc_new wr _)
    have HD1 : Hid (DeskW B b C sa sc S F R (wr.alloc (.cells #[.int .i64 (fdg F 0), .int .i64 (fdg F 1), .int .i64 (fdg F 2), .int .i64 (fdg F 3), .int .i64 (fdg F 4), .int .i64 (fdg F 5), .int .i64 (fdg F 6), .int .i64 (fdg F 7), .int .i64 (fdg F 8), .int .i64 (fdg F 9), .int .i64 (fdg F 10), .int .i64 (fdg F 11), .int .i64 (fdg F 12), .int .i64 (fdg F 13)] 109 (0, 0))) ∧ Sep (fun k => k = b) w (wr.alloc (.cells #[.int .i64 (fdg F 0), .int .i64 (fdg F 1), .int .i64 (fdg F 2), .int .i64 (fdg F 3), .int .i64 (fdg F 4), .int .i64 (fdg F 5), .int .i64 (fdg F 6), .int .i64 (fdg F 7), .int .i64 (fdg F 8), .int .i64 (fdg F 9), .int .i64 (fdg F 10), .int .i64 (fdg F 11), .int .i64 (fdg F 12), .int .i64 (fdg F 13)] 109 (0, 0)))) := Lib.hid ⟨hI.out.1.on hb1, hI.out.2.2.1.trans (Sep.of_below hb1)⟩
    replace c0 := hb1.on c0
    clear hb1
    go_upto_region 2 with (fail)
    clear g0 g1 g2 g3 g4 g5 g6 g7 g8 g9 g10 g11 g12 g13
    generalize wr.alloc (.cells #[.int .i64 (fdg F 0), .int .i64 (fdg F 1), .int .i64 (fdg F 2), .int .i64 (fdg F 3), .int .i64 (fdg F 4), .int .i64 (fdg F 5), .int .i64 (fdg F 6), .int .i64 (fdg F 7), .int .i64 (fdg F 8), .int .i64 (fdg F 9), .int .i64 (fdg F 10), .int .i64 (fdg F 11), .int .i64 (fdg F 12), .int .i64 (fdg F 13)] 109 (0, 0)) = w1 at HW HD1 c0 ⊢
    obtain ⟨q, hq⟩ : ∃ q, q = wr.heap.size := ⟨_, rfl⟩
    have HNE : Hid (q ≠ b) := Lib.hid (by omega)
    rw [← hq] at HW ⊢
    clear hq hbl
    go_wp2_with fail
    clear c0
    go_loopw [14] (fun iv W => ∃ (k : Nat) (F' R' : List Int), k ≤ C ∧ iv = .int .i64 k ∧ Hid (DeskW B b C sa sc S F' R' W ∧ Court S C F' R' ∧ Sep (fun k => k = b) w1 W ∧ ((F' = F ∧ R' = R ∧ ∀ j, j < k → Stuck S F j) ∨ nfd F < nfd F'))) (fun iv _ => C - (intOf iv).toNat)
    case atStart => exact ⟨0, F, R, Nat.zero_le _, rfl, Lib.hid ⟨HD1.out.1, hI.out.2.1, Sep.refl _, .inl ⟨rfl, rfl, fun j hj => by omega⟩⟩⟩
    case round =>
      obtain ⟨k, F', R', hk, rfl, hJ⟩ := hrel
      by_cases hlt : k < C
      · have hlt' : (k : Int) < C := by omega
        have CH := Lib.hid (hear_any (n := k) (by omega) hJ.out.1 hJ.out.2.1.f14 hJ.out.2.1.r14 (fun j => ⟨hJ.out.2.1.s.r0 j, by have h1 := hJ.out.2.1.top j; have h2 := nfd_le F'; have h3 := hJ.out.2.1.f14; omega⟩))
        go_wp2_with fail
        refine CH.out.mono ?_
        rintro e w3 ⟨rfl, hd3, hs3⟩
        have HJ3 : Hid (DeskW B b C sa sc S (hearS S F' R' k).1 (hearS S F' R' k).2 w3 ∧ Court S C (hearS S F' R' k).1 (hearS S F' R' k).2 ∧ Sep (fun k => k = b) w1 w3 ∧ (((hearS S F' R' k).1 = F ∧ (hearS S F' R' k).2 = R ∧ ∀ j, j < k + 1 → Stuck S F j) ∨ nfd F < nfd (hearS S F' R' k).1)) := Lib.hid (by
          have h1 := hJ.out.2.1.hear (n := k) (by omega)
          refine ⟨hd3, h1.1, hJ.out.2.2.1.trans hs3, ?_⟩
          rcases hJ.out.2.2.2 with ⟨e1, e2, h2⟩ | h2
          · rcases h1.2 with ⟨g1, g2, g3⟩ | g
            · refine .inl ⟨g1.trans e1, g2.trans e2, fun j hj => ?_⟩
              by_cases e : j = k
              · subst e; rw [← e1]; exact g3
              · exact h2 j (by omega)
            · exact .inr (by rw [g, e1]; omega)
          · rcases h1.2 with ⟨g1, -, -⟩ | g
            · exact .inr (by rw [g1]; exact h2)
            · exact .inr (by rw [g]; omega))
        clear CH hd3 hs3
        go_wp2_with fail
        go_roundw
        case rel => exact ⟨k + 1, _, _, by omega, by go_num, HJ3⟩
        case measure => simp [intOf]; omega
      · have hlt' : ¬ (k : Int) < C := by omega
        obtain rfl : k = C := by omega
        have HW2 := hJ.out.2.2.1.heap HW.out HNE.out
        have k0 : wr.cell? ⟨q, 0, none⟩ = some (.int .i64 (fdg F 0)) := by simp [World.cell?, HW2]
        have k1 : wr.cell? ⟨q, 1, none⟩ = some (.int .i64 (fdg F 1)) := by simp [World.cell?, HW2]
        have k2 : wr.cell? ⟨q, 2, none⟩ = some (.int .i64 (fdg F 2)) := by simp [World.cell?, HW2]
        have k3 : wr.cell? ⟨q, 3, none⟩ = some (.int .i64 (fdg F 3)) := by simp [World.cell?, HW2]
        have k4 : wr.cell? ⟨q, 4, none⟩ = some (.int .i64 (fdg F 4)) := by simp [World.cell?, HW2]
        have k5 : wr.cell? ⟨q, 5, none⟩ = some (.int .i64 (fdg F 5)) := by simp [World.cell?, HW2]
        have k6 : wr.cell? ⟨q, 6, none⟩ = some (.int .i64 (fdg F 6)) := by simp [World.cell?, HW2]
        have k7 : wr.cell? ⟨q, 7, none⟩ = some (.int .i64 (fdg F 7)) := by simp [World.cell?, HW2]
        have k8 : wr.cell? ⟨q, 8, none⟩ = some (.int .i64 (fdg F 8)) := by simp [World.cell?, HW2]
        have k9 : wr.cell? ⟨q, 9, none⟩ = some (.int .i64 (fdg F 9)) := by simp [World.cell?, HW2]
        have k10 : wr.cell? ⟨q, 10, none⟩ = some (.int .i64 (fdg F 10)) := by simp [World.cell?, HW2]
        have k11 : wr.cell? ⟨q, 11, none⟩ = some (.int .i64 (fdg F 11)) := by simp [World.cell?, HW2]
        have k12 : wr.cell? ⟨q, 12, none⟩ = some (.int .i64 (fdg F 12)) := by simp [World.cell?, HW2]
        have k13 : wr.cell? ⟨q, 13, none⟩ = some (.int .i64 (fdg F 13)) := by simp [World.cell?, HW2]
        clear HW2
        have g0 := hJ.out.1.d.fo 0 (by omega)
        have g1 := hJ.out.1.d.fo 1 (by omega)
        have g2 := hJ.out.1.d.fo 2 (by omega)
        have g3 := hJ.out.1.d.fo 3 (by omega)
        have g4 := hJ.out.1.d.fo 4 (by omega)
        have g5 := hJ.out.1.d.fo 5 (by omega)
        have g6 := hJ.out.1.d.fo 6 (by omega)
        have g7 := hJ.out.1.d.fo 7 (by omega)
        have g8 := hJ.out.1.d.fo 8 (by omega)
        have g9 := hJ.out.1.d.fo 9 (by omega)
        have g10 := hJ.out.1.d.fo 10 (by omega)
        have g11 := hJ.out.1.d.fo 11 (by omega)
        have g12 := hJ.out.1.d.fo 12 (by omega)
        have g13 := hJ.out.1.d.fo 13 (by omega)
        simp only [Nat.reduceAdd] at g0 g1 g2 g3 g4 g5 g6 g7 g8 g9 g10 g11 g12 g13
        have HEQ := fun w => arr_eql F' F hJ.out.2.1.f14 hI.out.2.1.f14 w
        rw [ints14 hJ.out.2.1.f14, ints14 hI.out.2.1.f14] at HEQ
        obtain ⟨z, hz⟩ : ∃ z, z = decide (F' = F) := ⟨_, rfl⟩
        rw [← hz] at HEQ
        have HZ := Lib.hid hz
        have HS : Hid (Sep (fun k => k = b) w wr) := Lib.hid (HD1.out.2.trans hJ.out.2.2.1)
        clear hz
        cases z with
        | true =>
          have hFF : F' = F := of_decide_eq_true HZ.out.symm
          have HR : Hid (∀ j, j < k → Stuck S F' j) := Lib.hid (by
            rcases hJ.out.2.2.2 with ⟨e1, -, h2⟩ | h2
            · rw [e1]; exact h2
            · rw [hFF] at h2; omega)
          clear hFF
          go_wp2_with fail
          go_quiet (fail)
          go_wp2
          go_ret
          exact ⟨rfl, F', R', hJ.out.1.on (below_drewN (Below.refl _ _) _), hJ.out.2.1, HR.out, HS.out.trans (Sep.of_below (below_drewN (Below.refl _ _) _))⟩
        | false =>
          have HN : Hid (nfd F < nfd F') := Lib.hid (by
            rcases hJ.out.2.2.2 with ⟨e1, -, -⟩ | h2
            · exact absurd e1 (of_decide_eq_false HZ.out.symm)
            · exact h2)
          go_wp2_with fail
          go_quiet (fail)
          go_wp2_with fail
          go_roundg (14 - nfd F')
          case rel => exact ⟨F', R', Lib.hid ⟨hJ.out.1.on (below_drewN (Below.refl _ _) _), hJ.out.2.1, HS.out.trans (Sep.of_below (below_drewN (Below.refl _ _) _)), by have h1 := nfd_le F'; have h2 := hJ.out.2.1.f14; omega⟩⟩
          case measure => have h1 := nfd_le F'; have h2 := hJ.out.2.1.f14; have h3 := HN.out; have h4 := hI.out.2.2.2; omega
end Go.Proofs.Ytiacgaplhndlnaa
