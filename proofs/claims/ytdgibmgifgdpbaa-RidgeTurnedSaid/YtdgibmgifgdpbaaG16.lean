/-
  Parts of the proof, in the order in which they build: Example, AwakeA, Awake.
-/
import Derived.Test.YtdgibmgifgdpbaaG15
set_option linter.unusedVariables false
set_option linter.unusedSimpArgs false
/-
  The chapter's examples: what the functions answer there.
-/
namespace Go.Proofs.Ytdgibmgifgdpbaa
open Lim

def g48 : Gd := ⟨5, rowH 4 8, rowS⟩
def g46 : Gd := ⟨5, rowH 4 6, rowS⟩
def g36 : Gd := ⟨3, rowsH, rowsS⟩
theorem err48 : openErr 5 (rowH 4 8) rowS = 0 := by kernel_rfl
theorem err46 : openErr 5 (rowH 4 6) rowS = 0 := by kernel_rfl
theorem err36 : openErr 3 rowsH rowsS = 0 := by kernel_rfl
theorem ok48 : g48.Ok := openErr_ok err48
theorem ok46 : g46.Ok := openErr_ok err46
theorem ok36 : g36.Ok := openErr_ok err36
theorem sl48 : IsSaddle g48 (lowT g48) 7 := IsSaddle.check ok48 (k := 6) (by kernel_rfl)
theorem sh48 : IsSaddle g48 (highT g48) 9 := IsSaddle.check ok48 (k := 6) (by kernel_rfl)
theorem sl46 : IsSaddle g46 (lowT g46) 7 := IsSaddle.check ok46 (k := 6) (by kernel_rfl)
theorem sh46 : IsSaddle g46 (highT g46) 9 := IsSaddle.check ok46 (k := 6) (by kernel_rfl)
theorem sl36 : IsSaddle g36 (lowT g36) 2 := IsSaddle.check ok36 (k := 6) (by kernel_rfl)
theorem sh36 : IsSaddle g36 (highT g36) 5 := IsSaddle.check ok36 (k := 6) (by kernel_rfl)
theorem sad48 {x y er : Int} (h : SadAns 5 (rowH 4 8) rowS x y er) : x = 7 ∧ y = 9 ∧ er = 0 := h.unique (.inr ⟨err48, 7, 9, sl48, sh48, .inr ⟨by decide, rfl, rfl, rfl⟩⟩)
theorem sad46 {x y er : Int} (h : SadAns 5 (rowH 4 6) rowS x y er) : x = 7 ∧ y = 9 ∧ er = 0 := h.unique (.inr ⟨err46, 7, 9, sl46, sh46, .inr ⟨by decide, rfl, rfl, rfl⟩⟩)
theorem sad36 {x y er : Int} (h : SadAns 3 rowsH rowsS x y er) : x = 2 ∧ y = 5 ∧ er = 0 := h.unique (.inr ⟨err36, 2, 5, sl36, sh36, .inr ⟨by decide, rfl, rfl, rfl⟩⟩)

theorem pa48 : passOK g48 (lowT g48) 1 (pl [10001, 3, 7, 7, 10001]) 6 = true := by kernel_rfl
theorem pb48 : passOK g48 (highT g48) 1 (pl [10001, 5, 9, 9, 10001]) 6 = true := by kernel_rfl
theorem pc48 : passOK g48 (lowT g48) 2 (pl [10001, 7, 7, 4, 10001]) 6 = true := by kernel_rfl
theorem pd48 : passOK g48 (highT g48) 2 (pl [10001, 9, 9, 8, 10001]) 6 = true := by kernel_rfl
theorem pb46 : passOK g46 (highT g46) 1 (pl [10001, 5, 9, 9, 10001]) 6 = true := by kernel_rfl
theorem pa46 : passOK g46 (lowT g46) 1 (pl [10001, 3, 7, 7, 10001]) 6 = true := by kernel_rfl
theorem pc46 : passOK g46 (lowT g46) 2 (pl [10001, 7, 7, 4, 10001]) 6 = true := by kernel_rfl
theorem pd46 : passOK g46 (highT g46) 2 (pl [10001, 9, 9, 6, 10001]) 6 = true := by kernel_rfl
theorem pc36 : passOK g36 (lowT g36) 2 (pl [10001, 5, 10001, 10001, 2, 10001]) 6 = true := by kernel_rfl
theorem pd36 : passOK g36 (highT g36) 2 (pl [10001, 5, 10001, 10001, 6, 10001]) 6 = true := by kernel_rfl

def want48 : List (Bool × Bool × Bool) := [(true, false, false), (true, false, false), (true, false, true), (false, true, true), (false, true, false)]
theorem sides48 {er : Int} {l : List (Bool × Bool × Bool)} (h : SidesAns 5 (rowH 4 8) rowS er l) : er = 0 ∧ l = want48 := by
  rcases h with ⟨h0, _⟩ | ⟨_, h1, h2⟩
  · exact absurd err48 h0
  · exact ⟨h1, (SidesG.closed (g := g48) ok48 pa48 pb48 pc48 pd48 (by kernel_rfl) (by kernel_rfl) h2).trans (by kernel_rfl)⟩
theorem doubt48 {er : Int} {L : List Nat} (h : DoubtAns 5 (rowH 4 8) rowS er L) : er = 0 ∧ L = [2, 3] := by
  rcases h with ⟨h0, _⟩ | ⟨_, h1, l, h2, h3⟩
  · exact absurd err48 h0
  · have hl : l = want48 := (SidesG.closed (g := g48) ok48 pa48 pb48 pc48 pd48 (by kernel_rfl) (by kernel_rfl) h2).trans (by kernel_rfl)
    exact ⟨h1, by rw [h3, hl]; kernel_rfl⟩
theorem doubt46 {er : Int} {L : List Nat} (h : DoubtAns 5 (rowH 4 6) rowS er L) : er = 0 ∧ L = [] := by
  rcases h with ⟨h0, _⟩ | ⟨_, h1, l, h2, h3⟩
  · exact absurd err46 h0
  · have hl := SidesG.closed (g := g46) ok46 pa46 pb46 pc46 pd46 (by kernel_rfl) (by kernel_rfl) h2
    exact ⟨h1, by rw [h3, hl]; kernel_rfl⟩
theorem saddles48 {a b : Nat → Int} (ha : IsPass g48 (lowT g48) 1 a) (hb : IsPass g48 (lowT g48) 2 b) : sadList g48 a b 9 = [2, 3] := (sadList_closed ok48 pa48 pc48 ha hb).trans (by kernel_rfl)
theorem saddles46 {a b : Nat → Int} (ha : IsPass g46 (lowT g46) 1 a) (hb : IsPass g46 (lowT g46) 2 b) : sadList g46 a b 9 = [2] := (sadList_closed ok46 pa46 pc46 ha hb).trans (by kernel_rfl)
theorem passes36 {er : Int} {l : List (Int × Int)} (h : PassAns 3 rowsH rowsS 2 er l) : er = 0 ∧ l = [(-1, -1), (5, 5), (-1, -1), (-1, -1), (2, 6), (-1, -1)] := by
  rcases h with ⟨h0, _⟩ | ⟨_, h0, _⟩ | ⟨_, _, h1, a, b, ha, hb, rfl⟩
  · exact absurd err36 h0
  · exact absurd h0 (by decide)
  · refine ⟨h1, (List.map_congr_left (g := pspan (pl [10001, 5, 10001, 10001, 2, 10001]) (pl [10001, 5, 10001, 10001, 6, 10001])) (fun i hi => ?_)).trans (by kernel_rfl)⟩
    have hi : i < g36.n := List.mem_range.1 hi
    unfold pspan
    rw [IsPass.unique (g := g36) ha (IsPass.check ok36 pc36) hi, IsPass.unique (g := g36) hb (IsPass.check ok36 pd36) hi]

theorem ridge48 {L : List Nat} (h : RInv g48 7 L L.length) : L = [2] := by
  have hall : ∀ c ∈ L, c = 2 := fun c hc => by
    have h1 := h.cells c hc
    have h2 : c < 5 := h1.1.1
    have h3 := h1.2
    have h4 : ∀ c, c < 5 → g48.ss.getD c 0 = 0 → 7 ≤ lowT g48 c → c = 2 := by decide
    exact h4 c h2 h1.1.2 h3
  match L, h.up, hall, h.parts with
  | [], _, _, hp => exact absurd hp (parts_no (g := g48) ok48 [] 6 (by kernel_rfl))
  | [a], _, ha, _ => rw [ha a (by simp)]
  | a :: b :: l, hu, ha, _ =>
    have h1 := (List.pairwise_cons.1 hu).1 b (by simp)
    rw [ha a (by simp), ha b (by simp)] at h1
    omega
theorem ridge36 {L : List Nat} (h : RInv g36 2 L L.length) : L = [1, 4] := by
  have hall : ∀ c ∈ L, c = 1 ∨ c = 4 := fun c hc => by
    have h1 := h.cells c hc
    have h2 : c < 6 := h1.1.1
    have h4 : ∀ c, c < 6 → g36.ss.getD c 0 = 0 → c = 1 ∨ c = 4 := by decide
    exact h4 c h2 h1.1.2
  match L, h.up, hall, h.parts with
  | [], _, _, hp => exact absurd hp (parts_no (g := g36) ok36 [] 6 (by kernel_rfl))
  | [a], _, ha, hp =>
    rcases ha a (by simp) with rfl | rfl
    · exact absurd hp (parts_no (g := g36) ok36 [1] 6 (by kernel_rfl))
    · exact absurd hp (parts_no (g := g36) ok36 [4] 6 (by kernel_rfl))
  | [a, b], hu, ha, _ =>
    have h1 := (List.pairwise_cons.1 hu).1 b (by simp)
    rcases ha a (by simp) with rfl | rfl <;> rcases ha b (by simp) with rfl | rfl <;> first | rfl | omega
  | a :: b :: c :: l, hu, ha, _ =>
    have h1 := (List.pairwise_cons.1 hu).1 b (by simp)
    have h2 := (List.pairwise_cons.1 (List.pairwise_cons.1 hu).2).1 c (by simp)
    have := ha a (by simp)
    have := ha b (by simp)
    have := ha c (by simp)
    omega
theorem way48 {L : List Nat} (h : IsWay g48 (Low g48 (highT g48) 9) (fun c => atB g48 c 1 = true) (fun c => atB g48 c 2) L) : L = [1, 2, 3] := by
  have hA : ∀ c ∈ L, c = 1 ∨ c = 2 ∨ c = 3 := fun c hc => by
    have h1 := (h.cells c hc).1
    have h4 : ∀ c, c < 5 → g48.ss.getD c 0 = 0 → c = 1 ∨ c = 2 ∨ c = 3 := by decide
    exact h4 c h1.1 h1.2
  have hnb : ∀ a b, (a = 1 ∨ a = 2 ∨ a = 3) → (b = 1 ∨ b = 2 ∨ b = 3) → nb g48 a b → b = a + 1 ∨ a = b + 1 := by
    intro a b ha hb hn
    have := mem_nbr.1 hn
    have hw : g48.wd = 5 := rfl
    have hN : g48.n = 5 := rfl
    rw [hw, hN] at this
    rcases ha with rfl | rfl | rfl <;> rcases hb with rfl | rfl | rfl <;> omega
  obtain ⟨b, r, rfl, hb⟩ := h.first
  have hb1 : b = 1 := by
    rcases hA b (by simp) with rfl | rfl | rfl
    · rfl
    · exact absurd hb (by decide)
    · exact absurd hb (by decide)
  subst hb1
  obtain ⟨l, z, hz, hze⟩ := h.last
  match r, hA, h.once, h.adj, hz with
  | [], _, _, _, hz =>
    have : z = 1 := by
      rcases l with _ | ⟨x, l⟩
      · simp at hz; exact hz.symm
      · simp at hz
    subst this
    exact absurd hze (by decide)
  | c :: r, hA, ho, hadj, hz =>
    have hc := hnb 1 c (by omega) (hA c (by simp)) (hadj [] 1 c r rfl)
    have hc2 := hA c (by simp)
    have : c = 2 := by omega
    subst this
    match r, hA, ho, hadj, hz with
    | [], _, _, _, hz =>
      have : z = 2 := by
        rcases l with _ | ⟨x, l⟩
        · simp at hz
        · rcases l with _ | ⟨y, l⟩
          · simp at hz; exact hz.2.symm
          · simp at hz
      subst this
      exact absurd hze (by decide)
    | d :: r, hA, ho, hadj, hz =>
      have hd := hnb 2 d (by omega) (hA d (by simp)) (hadj [1] 2 d r rfl)
      have hd2 := hA d (by simp)
      have hd3 : d ≠ 1 := fun e => by subst e; simp at ho
      have : d = 3 := by omega
      subst this
      match r, hA, ho, hadj with
      | [], _, _, _ => rfl
      | e :: r, hA, ho, hadj =>
        have he := hnb 3 e (by omega) (hA e (by simp)) (hadj [1, 2] 3 e r rfl)
        have he2 := hA e (by simp)
        have he3 : e ≠ 2 := fun h => by subst h; simp at ho
        omega
end Go.Proofs.Ytdgibmgifgdpbaa
/-
  The examples hold: the contract of the statements' function awake.
-/
namespace Go.Proofs.Ytdgibmgifgdpbaa
open Go.RowKit Go.Shelf
open Lim

theorem RS.on {B : Nat} {w w' : World} {v : Value} {n : Nat} {xs : List Value} (h : RS w.heap.size w v n xs) (hb : Below w.heap.size w w') : RS w'.heap.size w' v n xs := (h.below hb).mono hb.size
theorem eqi {v1 v2 : Value} {l1 l2 : List Int} {w : World} (he : l1 = l2) (hn : l1.length ≤ 1000) (h1 : RS w.heap.size w v1 l1.length (ints l1)) (h2 : RS w.heap.size w v2 l2.length (ints l2)) :
    Calls Try.prog 22 #[v1, v2] w fun e w' => e = .returned (.bool true) ∧ Below w.heap.size w w' := (equal_ints hn h1 h2).mono (fun e w' h => ⟨by rw [h.1, decide_eq_true he], h.2⟩)
theorem eqs {v1 v2 : Value} {l1 l2 : List (Int × Int)} {w : World} (he : l1 = l2) (hn : l1.length ≤ 1000) (h1 : RS w.heap.size w v1 l1.length (spans l1)) (h2 : RS w.heap.size w v2 l2.length (spans l2)) :
    Calls Try.prog 43 #[v1, v2] w fun e w' => e = .returned (.bool true) ∧ Below w.heap.size w w' := (equal_spans hn h1 h2).mono (fun e w' h => ⟨by rw [h.1, decide_eq_true he], h.2⟩)
theorem eqd {v1 v2 : Value} {l1 l2 : List (Bool × Bool × Bool)} {w : World} (he : l1 = l2) (hn : l1.length ≤ 1000) (h1 : RS w.heap.size w v1 l1.length (sideCells l1)) (h2 : RS w.heap.size w v2 l2.length (sideCells l2)) :
    Calls Try.prog 54 #[v1, v2] w fun e w' => e = .returned (.bool true) ∧ Below w.heap.size w w' := (equal_sides hn h1 h2).mono (fun e w' h => ⟨by rw [h.1, decide_eq_true he], h.2⟩)
theorem rs_new {w W : World} {t n : Nat} (X : List Value) (h : W = w.alloc (.cells X.toArray t)) : RS W.heap.size W (.slice (some ⟨w.heap.size, 0, none⟩) n n) n X := by
  subst h
  exact ⟨_, _, rfl, fun _ => ⟨_, _, rfl, by rw [World.size_alloc]; omega, fun j u hj => range_new w X t j u hj⟩⟩
/-- what the functions answer at the examples -/
theorem c_sad48 {hv sv : Value} {w : World} (h1 : RS w.heap.size w hv 5 (spans (rowH 4 8))) (h2 : RS w.heap.size w sv 5 (ints rowS)) : Calls Try.prog 28 #[.agg #[.int .i64 5, hv, sv]] w fun e w' => e = .returned (.tuple #[.agg #[.int .i64 7, .int .i64 9], .int .i64 0]) ∧ Below w.heap.size w w' := by
  refine (Saddle_any (hs := rowH 4 8) (ss := rowS) (Nat.le_refl _) h1 h2).mono ?_
  rintro e w' ⟨x, y, er, rfl, hb, hs⟩
  obtain ⟨rfl, rfl, rfl⟩ := sad48 hs
  exact ⟨rfl, hb⟩
theorem c_sad36 {hv sv : Value} {w : World} (h1 : RS w.heap.size w hv 6 (spans rowsH)) (h2 : RS w.heap.size w sv 6 (ints rowsS)) : Calls Try.prog 28 #[.agg #[.int .i64 3, hv, sv]] w fun e w' => e = .returned (.tuple #[.agg #[.int .i64 2, .int .i64 5], .int .i64 0]) ∧ Below w.heap.size w w' := by
  refine (Saddle_any (hs := rowsH) (ss := rowsS) (Nat.le_refl _) h1 h2).mono ?_
  rintro e w' ⟨x, y, er, rfl, hb, hs⟩
  obtain ⟨rfl, rfl, rfl⟩ := sad36 hs
  exact ⟨rfl, hb⟩
theorem c_ridge48 {hv sv : Value} {w : World} (h1 : RS w.heap.size w hv 5 (spans (rowH 4 8))) (h2 : RS w.heap.size w sv 5 (ints rowS)) : Calls Try.prog 34 #[.agg #[.int .i64 5, hv, sv]] w fun e w' => ∃ v, e = .returned (.tuple #[v, .int .i64 0]) ∧ RS w'.heap.size w' v 1 (ints [2]) ∧ Below w.heap.size w w' := by
  refine (Ridge_any (hs := rowH 4 8) (ss := rowS) (Nat.le_refl _) h1 h2).mono ?_
  rintro e w' ⟨v, x, y, er, L, rfl, hb, hs, ho, -, hL⟩
  obtain ⟨rfl, rfl, rfl⟩ := sad48 hs
  obtain rfl := ridge48 (hL rfl)
  exact ⟨v, rfl, RS.of_owns ho, hb⟩
theorem c_ridge36 {hv sv : Value} {w : World} (h1 : RS w.heap.size w hv 6 (spans rowsH)) (h2 : RS w.heap.size w sv 6 (ints rowsS)) : Calls Try.prog 34 #[.agg #[.int .i64 3, hv, sv]] w fun e w' => ∃ v, e = .returned (.tuple #[v, .int .i64 0]) ∧ RS w'.heap.size w' v 2 (ints [1, 4]) ∧ Below w.heap.size w w' := by
  refine (Ridge_any (hs := rowsH) (ss := rowsS) (Nat.le_refl _) h1 h2).mono ?_
  rintro e w' ⟨v, x, y, er, L, rfl, hb, hs, ho, -, hL⟩
  obtain ⟨rfl, rfl, rfl⟩ := sad36 hs
  obtain rfl := ridge36 (hL rfl)
  exact ⟨v, rfl, RS.of_owns ho, hb⟩
theorem c_cross48 {hv sv : Value} {w : World} (h1 : RS w.heap.size w hv 5 (spans (rowH 4 8))) (h2 : RS w.heap.size w sv 5 (ints rowS)) : Calls Try.prog 49 #[.agg #[.int .i64 5, hv, sv]] w fun e w' => ∃ v, e = .returned (.tuple #[v, .int .i64 0]) ∧ RS w'.heap.size w' v 3 (ints [1, 2, 3]) ∧ Below w.heap.size w w' := by
  refine (Crossing_any (hs := rowH 4 8) (ss := rowS) (Nat.le_refl _) h1 h2).mono ?_
  rintro e w' ⟨v, x, y, er, rfl, hb, hs, -, hL⟩
  obtain ⟨rfl, rfl, rfl⟩ := sad48 hs
  obtain ⟨L, hw, ho⟩ := hL rfl
  obtain rfl := way48 hw
  exact ⟨v, rfl, RS.of_owns ho, hb⟩
theorem c_sides48 {hv sv : Value} {w : World} (h1 : RS w.heap.size w hv 5 (spans (rowH 4 8))) (h2 : RS w.heap.size w sv 5 (ints rowS)) : Calls Try.prog 19 #[.agg #[.int .i64 5, hv, sv]] w fun e w' => ∃ v, e = .returned (.tuple #[v, .int .i64 0]) ∧ RS w'.heap.size w' v 5 (sideCells want48) ∧ Below w.heap.size w w' := by
  refine (Sides_any (hs := rowH 4 8) (ss := rowS) (Nat.le_refl _) h1 h2).mono ?_
  rintro e w' ⟨v, er, l, rfl, hb, hs, ho⟩
  obtain ⟨rfl, rfl⟩ := sides48 hs
  exact ⟨v, rfl, RS.of_owns ho, hb⟩
theorem c_doubt48 {hv sv : Value} {w : World} (h1 : RS w.heap.size w hv 5 (spans (rowH 4 8))) (h2 : RS w.heap.size w sv 5 (ints rowS)) : Calls Try.prog 21 #[.agg #[.int .i64 5, hv, sv]] w fun e w' => ∃ v, e = .returned (.tuple #[v, .int .i64 0]) ∧ RS w'.heap.size w' v 2 (ints [2, 3]) ∧ Below w.heap.size w w' := by
  refine (Doubt_any (hs := rowH 4 8) (ss := rowS) (Nat.le_refl _) h1 h2).mono ?_
  rintro e w' ⟨v, er, L, rfl, hb, hs, ho⟩
  obtain ⟨rfl, rfl⟩ := doubt48 hs
  exact ⟨v, rfl, RS.of_owns ho, hb⟩
theorem c_doubt46 {hv sv : Value} {w : World} (h1 : RS w.heap.size w hv 5 (spans (rowH 4 6))) (h2 : RS w.heap.size w sv 5 (ints rowS)) : Calls Try.prog 21 #[.agg #[.int .i64 5, hv, sv]] w fun e w' => ∃ v, e = .returned (.tuple #[v, .int .i64 0]) ∧ RS w'.heap.size w' v 0 (ints []) ∧ Below w.heap.size w w' := by
  refine (Doubt_any (hs := rowH 4 6) (ss := rowS) (Nat.le_refl _) h1 h2).mono ?_
  rintro e w' ⟨v, er, L, rfl, hb, hs, ho⟩
  obtain ⟨rfl, rfl⟩ := doubt46 hs
  exact ⟨v, rfl, RS.of_owns ho, hb⟩
theorem c_saddles48 {hv sv : Value} {w : World} (h1 : RS w.heap.size w hv 5 (spans (rowH 4 8))) (h2 : RS w.heap.size w sv 5 (ints rowS)) : Calls Try.prog 23 #[.agg #[.int .i64 5, hv, sv]] w fun e w' => ∃ v, e = .returned (.tuple #[v, .int .i64 0]) ∧ RS w'.heap.size w' v 2 (ints [2, 3]) ∧ Below w.heap.size w w' := by
  refine (Saddles_any (hs := rowH 4 8) (ss := rowS) (Nat.le_refl _) h1 h2).mono ?_
  rintro e w' ⟨v, x, y, er, L, rfl, hb, hs, ho, -, hL⟩
  obtain ⟨rfl, rfl, rfl⟩ := sad48 hs
  obtain ⟨a, b, ha, hb', rfl⟩ := hL rfl
  have e1 : sadList ⟨(5 : Int).toNat, rowH 4 8, rowS⟩ a b 9 = [2, 3] := saddles48 ha hb'
  rw [e1] at ho
  exact ⟨v, rfl, RS.of_owns ho, hb⟩
theorem c_saddles46 {hv sv : Value} {w : World} (h1 : RS w.heap.size w hv 5 (spans (rowH 4 6))) (h2 : RS w.heap.size w sv 5 (ints rowS)) : Calls Try.prog 23 #[.agg #[.int .i64 5, hv, sv]] w fun e w' => ∃ v, e = .returned (.tuple #[v, .int .i64 0]) ∧ RS w'.heap.size w' v 1 (ints [2]) ∧ Below w.heap.size w w' := by
  refine (Saddles_any (hs := rowH 4 6) (ss := rowS) (Nat.le_refl _) h1 h2).mono ?_
  rintro e w' ⟨v, x, y, er, L, rfl, hb, hs, ho, -, hL⟩
  obtain ⟨rfl, rfl, rfl⟩ := sad46 hs
  obtain ⟨a, b, ha, hb', rfl⟩ := hL rfl
  have e1 : sadList ⟨(5 : Int).toNat, rowH 4 6, rowS⟩ a b 9 = [2] := saddles46 ha hb'
  rw [e1] at ho
  exact ⟨v, rfl, RS.of_owns ho, hb⟩
theorem c_passes36 {hv sv : Value} {w : World} (h1 : RS w.heap.size w hv 6 (spans rowsH)) (h2 : RS w.heap.size w sv 6 (ints rowsS)) : Calls Try.prog 32 #[.agg #[.int .i64 3, hv, sv], .int .i64 2] w fun e w' => ∃ v, e = .returned (.tuple #[v, .int .i64 0]) ∧ RS w'.heap.size w' v 6 (spans [(-1, -1), (5, 5), (-1, -1), (-1, -1), (2, 6), (-1, -1)]) ∧ Below w.heap.size w w' := by
  refine (Passes_any (hs := rowsH) (ss := rowsS) (sea := 2) (Nat.le_refl _) h1 h2).mono ?_
  rintro e w' ⟨v, er, l, rfl, hb, hs, ho⟩
  obtain ⟨rfl, rfl⟩ := passes36 hs
  exact ⟨v, rfl, RS.of_owns ho, hb⟩
end Go.Proofs.Ytdgibmgifgdpbaa
/-
  The examples hold: the contract of the statements' function awake.
-/
namespace Go.Proofs.Ytdgibmgifgdpbaa
open Go.RowKit Go.Shelf
open Lim
set_option maxRecDepth 100000 in
set_option maxHeartbeats 4000000 in
theorem awake_any (w : World) : Calls Try.prog 14 #[] w fun e w' => e = .returned (.bool true) ∧ Below w.heap.size w w' := by
  go_enter Try.func14, Try.ntmps14
  go_wp2_with fail
  refine (Row_any 4 8 w).mono ?_
  rintro e w1 ⟨hv, sv, rfl, hh, hs, hb⟩
  have HB := Lib.hid hb
  have GH := Lib.hid hh
  have GS := Lib.hid hs
  clear hb hh hs
  go_wp2_with fail
  refine (c_sad48 GH.out GS.out).mono ?_
  rintro e w2 ⟨rfl, hb⟩
  replace GH := Lib.hid (RS.on (B := 0) GH.out hb)
  replace GS := Lib.hid (RS.on (B := 0) GS.out hb)
  replace HB := Lib.hid (HB.out.trans (hb.mono HB.out.size))
  clear hb
  clear GH GS
  go_wp2_with fail
  have hb : Below w2.heap.size w2 (w2.alloc (.cells #[.int .i64 7, .int .i64 9] 54)) := (Below.refl _ _).alloc (Nat.le_refl _) _
  have hsp0 := cell_new w2 #[.int .i64 7, .int .i64 9] 54 0 (by simp)
  have hsp1 := cell_new w2 #[.int .i64 7, .int .i64 9] 54 1 (by simp)
  have hsp2 := frozen_new w2 #[.int .i64 7, .int .i64 9] 54 0 (by simp)
  have hsp3 := frozen_new w2 #[.int .i64 7, .int .i64 9] 54 1 (by simp)
  generalize (w2.alloc (.cells #[.int .i64 7, .int .i64 9] 54)) = w3 at hb hsp0 hsp1 hsp2 hsp3 ⊢
  have HS2 : Hid (w.heap.size ≤ w2.heap.size) := Lib.hid HB.out.size
  have HSP := Lib.hid (And.intro hsp0 (And.intro hsp1 (And.intro hsp2 hsp3)))
  replace HB := Lib.hid (HB.out.trans (hb.mono HB.out.size))
  clear hb hsp0 hsp1 hsp2 hsp3
  refine (Row_any 4 8 _).mono ?_
  rintro e w4 ⟨hv, sv, rfl, hh, hs, hb⟩
  replace HB := Lib.hid (HB.out.trans (hb.mono HB.out.size))
  replace HSP := Lib.hid (And.intro (cell_on hb HSP.out.1) (And.intro (cell_on hb HSP.out.2.1) (And.intro (frozen_on hb HSP.out.1 HSP.out.2.2.1) (frozen_on hb HSP.out.2.1 HSP.out.2.2.2))))
  have GH := Lib.hid hh
  have GS := Lib.hid hs
  clear hb hh hs
  go_wp2_with fail
  refine (c_ridge48 GH.out GS.out).mono ?_
  rintro e w5 ⟨vr, rfl, hr, hb⟩
  replace GH := Lib.hid (RS.on (B := 0) GH.out hb)
  replace GS := Lib.hid (RS.on (B := 0) GS.out hb)
  replace HB := Lib.hid (HB.out.trans (hb.mono HB.out.size))
  replace HSP := Lib.hid (And.intro (cell_on hb HSP.out.1) (And.intro (cell_on hb HSP.out.2.1) (And.intro (frozen_on hb HSP.out.1 HSP.out.2.2.1) (frozen_on hb HSP.out.2.1 HSP.out.2.2.2))))
  have Rvr := Lib.hid hr
  clear hb hr
  clear GH GS
  go_wp2_with fail
  refine (Row_any 4 8 _).mono ?_
  rintro e w6 ⟨hv, sv, rfl, hh, hs, hb⟩
  replace Rvr := Lib.hid (RS.on (B := 0) Rvr.out hb)
  replace HB := Lib.hid (HB.out.trans (hb.mono HB.out.size))
  replace HSP := Lib.hid (And.intro (cell_on hb HSP.out.1) (And.intro (cell_on hb HSP.out.2.1) (And.intro (frozen_on hb HSP.out.1 HSP.out.2.2.1) (frozen_on hb HSP.out.2.1 HSP.out.2.2.2))))
  have GH := Lib.hid hh
  have GS := Lib.hid hs
  clear hb hh hs
  go_wp2_with fail
  refine (c_cross48 GH.out GS.out).mono ?_
  rintro e w7 ⟨vc, rfl, hr, hb⟩
  replace Rvr := Lib.hid (RS.on (B := 0) Rvr.out hb)
  replace GH := Lib.hid (RS.on (B := 0) GH.out hb)
  replace GS := Lib.hid (RS.on (B := 0) GS.out hb)
  replace HB := Lib.hid (HB.out.trans (hb.mono HB.out.size))
  replace HSP := Lib.hid (And.intro (cell_on hb HSP.out.1) (And.intro (cell_on hb HSP.out.2.1) (And.intro (frozen_on hb HSP.out.1 HSP.out.2.2.1) (frozen_on hb HSP.out.2.1 HSP.out.2.2.2))))
  have Rvc := Lib.hid hr
  clear hb hr
  clear GH GS
  go_wp2_with fail
  refine (Row_any 4 8 _).mono ?_
  rintro e w8 ⟨hv, sv, rfl, hh, hs, hb⟩
  replace Rvr := Lib.hid (RS.on (B := 0) Rvr.out hb)
  replace Rvc := Lib.hid (RS.on (B := 0) Rvc.out hb)
  replace HB := Lib.hid (HB.out.trans (hb.mono HB.out.size))
  replace HSP := Lib.hid (And.intro (cell_on hb HSP.out.1) (And.intro (cell_on hb HSP.out.2.1) (And.intro (frozen_on hb HSP.out.1 HSP.out.2.2.1) (frozen_on hb HSP.out.2.1 HSP.out.2.2.2))))
  have GH := Lib.hid hh
  have GS := Lib.hid hs
  clear hb hh hs
  go_wp2_with fail
  refine (c_sides48 GH.out GS.out).mono ?_
  rintro e w9 ⟨vl, rfl, hr, hb⟩
  replace Rvr := Lib.hid (RS.on (B := 0) Rvr.out hb)
  replace Rvc := Lib.hid (RS.on (B := 0) Rvc.out hb)
  replace GH := Lib.hid (RS.on (B := 0) GH.out hb)
  replace GS := Lib.hid (RS.on (B := 0) GS.out hb)
  replace HB := Lib.hid (HB.out.trans (hb.mono HB.out.size))
  replace HSP := Lib.hid (And.intro (cell_on hb HSP.out.1) (And.intro (cell_on hb HSP.out.2.1) (And.intro (frozen_on hb HSP.out.1 HSP.out.2.2.1) (frozen_on hb HSP.out.2.1 HSP.out.2.2.2))))
  have Rvl := Lib.hid hr
  clear hb hr
  clear GH GS
  go_wp2_with fail
  refine (Row_any 4 8 _).mono ?_
  rintro e w10 ⟨hv, sv, rfl, hh, hs, hb⟩
  replace Rvr := Lib.hid (RS.on (B := 0) Rvr.out hb)
  replace Rvc := Lib.hid (RS.on (B := 0) Rvc.out hb)
  replace Rvl := Lib.hid (RS.on (B := 0) Rvl.out hb)
  replace HB := Lib.hid (HB.out.trans (hb.mono HB.out.size))
  replace HSP := Lib.hid (And.intro (cell_on hb HSP.out.1) (And.intro (cell_on hb HSP.out.2.1) (And.intro (frozen_on hb HSP.out.1 HSP.out.2.2.1) (frozen_on hb HSP.out.2.1 HSP.out.2.2.2))))
  have GH := Lib.hid hh
  have GS := Lib.hid hs
  clear hb hh hs
  go_wp2_with fail
  refine (c_doubt48 GH.out GS.out).mono ?_
  rintro e w11 ⟨vd, rfl, hr, hb⟩
  replace Rvr := Lib.hid (RS.on (B := 0) Rvr.out hb)
  replace Rvc := Lib.hid (RS.on (B := 0) Rvc.out hb)
  replace Rvl := Lib.hid (RS.on (B := 0) Rvl.out hb)
  replace GH := Lib.hid (RS.on (B := 0) GH.out hb)
  replace GS := Lib.hid (RS.on (B := 0) GS.out hb)
  replace HB := Lib.hid (HB.out.trans (hb.mono HB.out.size))
  replace HSP := Lib.hid (And.intro (cell_on hb HSP.out.1) (And.intro (cell_on hb HSP.out.2.1) (And.intro (frozen_on hb HSP.out.1 HSP.out.2.2.1) (frozen_on hb HSP.out.2.1 HSP.out.2.2.2))))
  have Rvd := Lib.hid hr
  clear hb hr
  clear GH GS
  go_wp2_with fail
  refine (Row_any 4 8 _).mono ?_
  rintro e w12 ⟨hv, sv, rfl, hh, hs, hb⟩
  replace Rvr := Lib.hid (RS.on (B := 0) Rvr.out hb)
  replace Rvc := Lib.hid (RS.on (B := 0) Rvc.out hb)
  replace Rvl := Lib.hid (RS.on (B := 0) Rvl.out hb)
  replace Rvd := Lib.hid (RS.on (B := 0) Rvd.out hb)
  replace HB := Lib.hid (HB.out.trans (hb.mono HB.out.size))
  replace HSP := Lib.hid (And.intro (cell_on hb HSP.out.1) (And.intro (cell_on hb HSP.out.2.1) (And.intro (frozen_on hb HSP.out.1 HSP.out.2.2.1) (frozen_on hb HSP.out.2.1 HSP.out.2.2.2))))
  have GH := Lib.hid hh
  have GS := Lib.hid hs
  clear hb hh hs
  go_wp2_with fail
  refine (c_saddles48 GH.out GS.out).mono ?_
  rintro e w13 ⟨vm, rfl, hr, hb⟩
  replace Rvr := Lib.hid (RS.on (B := 0) Rvr.out hb)
  replace Rvc := Lib.hid (RS.on (B := 0) Rvc.out hb)
  replace Rvl := Lib.hid (RS.on (B := 0) Rvl.out hb)
  replace Rvd := Lib.hid (RS.on (B := 0) Rvd.out hb)
  replace GH := Lib.hid (RS.on (B := 0) GH.out hb)
  replace GS := Lib.hid (RS.on (B := 0) GS.out hb)
  replace HB := Lib.hid (HB.out.trans (hb.mono HB.out.size))
  replace HSP := Lib.hid (And.intro (cell_on hb HSP.out.1) (And.intro (cell_on hb HSP.out.2.1) (And.intro (frozen_on hb HSP.out.1 HSP.out.2.2.1) (frozen_on hb HSP.out.2.1 HSP.out.2.2.2))))
  have Rvm := Lib.hid hr
  clear hb hr
  clear GH GS
  go_wp2_with fail
  have hC : (fun W => W.cell? ⟨w2.heap.size, 0, none⟩ = some (.int .i64 7) ∧ W.cell? ⟨w2.heap.size, 1, none⟩ = some (.int .i64 9)) w13.drew := ⟨HSP.out.1, HSP.out.2.1⟩
  refine Lim.regC' (fun W => W.cell? ⟨w2.heap.size, 0, none⟩ = some (.int .i64 7) ∧ W.cell? ⟨w2.heap.size, 1, none⟩ = some (.int .i64 9)) [] #[false, false, false, false, false, false, false, false, false, false, false, false, false, false, false, false, false, false, false, false, false, false, false, false, false, false, false, false, false, false, false, false, false, false, false, false, false, false, false, false, false, false, false, false, false, false, false, false, false, false, false, false, false, false, false, false, false, false, false, false, false, false] (by kernel_rfl) rfl ?_
  refine Lim.stepR 0 (fun _ => trivial) rfl (by kernel_rfl) (fun _ _ _ _ h => h) hC rfl ?_; apply Exists.intro; refine ⟨?_, ?_⟩
  · rintro w ⟨r1, r2⟩; go_simp; try with_reducible rfl
  simp only [Act.put, List.setIfInBounds_toArray, List.set_cons_succ, List.set_cons_zero]
  refine Lim.stepR 1 (fun _ => trivial) rfl (by kernel_rfl) (fun _ _ _ _ h => h) hC rfl ?_; apply Exists.intro; refine ⟨?_, ?_⟩
  · rintro w ⟨r1, r2⟩; go_simp; try with_reducible rfl
  simp only [Act.put, List.setIfInBounds_toArray, List.set_cons_succ, List.set_cons_zero]
  refine Lim.stepR 2 (fun _ => trivial) rfl (by kernel_rfl) (fun _ _ _ _ h => h) hC rfl ?_; apply Exists.intro; refine ⟨?_, ?_⟩
  · rintro w ⟨r1, r2⟩; go_simp; try with_reducible rfl
  simp only [Act.put, List.setIfInBounds_toArray, List.set_cons_succ, List.set_cons_zero]
  refine Lim.stepR 3 (fun _ => trivial) rfl (by kernel_rfl) (fun _ _ _ _ h => h) hC rfl ?_; apply Exists.intro; refine ⟨?_, ?_⟩
  · rintro w ⟨r1, r2⟩; go_simp; try with_reducible rfl
  simp only [Act.put, List.setIfInBounds_toArray, List.set_cons_succ, List.set_cons_zero]
  refine Lim.stepR 4 (fun _ => trivial) rfl (by kernel_rfl) (fun _ _ _ _ h => h) hC rfl ?_; apply Exists.intro; refine ⟨?_, ?_⟩
  · rintro w ⟨r1, r2⟩; go_simp; try with_reducible rfl
  simp only [Act.put, List.setIfInBounds_toArray, List.set_cons_succ, List.set_cons_zero]
  refine Lim.stepR 5 (fun _ => trivial) rfl (by kernel_rfl) (fun _ _ _ _ h => h) hC rfl ?_; apply Exists.intro; refine ⟨?_, ?_⟩
  · rintro w ⟨r1, r2⟩; go_simp; try with_reducible rfl
  simp only [Act.put, List.setIfInBounds_toArray, List.set_cons_succ, List.set_cons_zero]
  refine Lim.stepR 6 (fun _ => trivial) rfl (by kernel_rfl) (fun _ _ _ _ h => h) hC rfl ?_; apply Exists.intro; refine ⟨?_, ?_⟩
  · rintro w ⟨r1, r2⟩; go_simp; try with_reducible rfl
  simp only [Act.put, List.setIfInBounds_toArray, List.set_cons_succ, List.set_cons_zero]
  refine Lim.stepR 7 (fun _ => trivial) rfl (by kernel_rfl) (fun _ _ _ _ h => h) hC rfl ?_; apply Exists.intro; refine ⟨?_, ?_⟩
  · rintro w ⟨r1, r2⟩; go_simp; try with_reducible rfl
  simp only [Act.put, List.setIfInBounds_toArray, List.set_cons_succ, List.set_cons_zero]
  refine Lim.stepR 8 (fun _ => trivial) rfl (by kernel_rfl) (fun _ _ _ _ h => h) hC rfl ?_; apply Exists.intro; refine ⟨?_, ?_⟩
  · rintro w ⟨r1, r2⟩; go_simp; try with_reducible rfl
  simp only [Act.put, List.setIfInBounds_toArray, List.set_cons_succ, List.set_cons_zero]
  refine Lim.stepR 9 (fun _ => trivial) rfl (by kernel_rfl) (fun _ _ _ _ h => h) hC rfl ?_; apply Exists.intro; refine ⟨?_, ?_⟩
  · rintro w ⟨r1, r2⟩; go_simp; try with_reducible rfl
  simp only [Act.put, List.setIfInBounds_toArray, List.set_cons_succ, List.set_cons_zero]
  refine Lim.stepR 10 (fun _ => trivial) rfl (by kernel_rfl) (fun _ _ _ _ h => h) hC rfl ?_; apply Exists.intro; refine ⟨?_, ?_⟩
  · rintro w ⟨r1, r2⟩; go_simp; try with_reducible rfl
  simp only [Act.put, List.setIfInBounds_toArray, List.set_cons_succ, List.set_cons_zero]
  refine Lim.stepR 11 (fun _ => trivial) rfl (by kernel_rfl) (fun _ _ _ _ h => h) hC rfl ?_; apply Exists.intro; refine ⟨?_, ?_⟩
  · rintro w ⟨r1, r2⟩; go_simp; try with_reducible rfl
  simp only [Act.put, List.setIfInBounds_toArray, List.set_cons_succ, List.set_cons_zero]
  refine Lim.stepR 12 (fun _ => trivial) rfl (by kernel_rfl) (fun _ _ _ _ h => h) hC rfl ?_; apply Exists.intro; refine ⟨?_, ?_⟩
  · rintro w ⟨r1, r2⟩; go_simp; try with_reducible rfl
  simp only [Act.put, List.setIfInBounds_toArray, List.set_cons_succ, List.set_cons_zero]
  refine Lim.stepR 13 (fun _ => trivial) rfl (by kernel_rfl) (fun _ _ _ _ h => h) hC rfl ?_; apply Exists.intro; refine ⟨?_, ?_⟩
  · rintro w ⟨r1, r2⟩; go_simp; try with_reducible rfl
  simp only [Act.put, List.setIfInBounds_toArray, List.set_cons_succ, List.set_cons_zero]
  refine Lim.stepR 14 (fun _ => trivial) rfl (by kernel_rfl) (fun _ _ _ _ h => h) hC rfl ?_; apply Exists.intro; refine ⟨?_, ?_⟩
  · rintro w ⟨r1, r2⟩; go_simp; try with_reducible rfl
  simp only [Act.put, List.setIfInBounds_toArray, List.set_cons_succ, List.set_cons_zero]
  refine Lim.stepR 15 (fun _ => trivial) rfl (by kernel_rfl) (fun _ _ _ _ h => h) hC rfl ?_; apply Exists.intro; refine ⟨?_, ?_⟩
  · rintro w ⟨r1, r2⟩; go_simp; try with_reducible rfl
  simp only [Act.put, List.setIfInBounds_toArray, List.set_cons_succ, List.set_cons_zero]
  refine Lim.stepR 16 (fun _ => trivial) rfl (by kernel_rfl) (fun _ _ _ _ h => h) hC rfl ?_; apply Exists.intro; refine ⟨?_, ?_⟩
  · rintro w ⟨r1, r2⟩; go_simp; try with_reducible rfl
  simp only [Act.put, List.setIfInBounds_toArray, List.set_cons_succ, List.set_cons_zero]
  refine Lim.stepR 17 (fun _ => trivial) rfl (by kernel_rfl) (fun _ _ _ _ h => h) hC rfl ?_; apply Exists.intro; refine ⟨?_, ?_⟩
  · rintro w ⟨r1, r2⟩; go_simp; try with_reducible rfl
  simp only [Act.put, List.setIfInBounds_toArray, List.set_cons_succ, List.set_cons_zero]
  refine Lim.stepR 18 (fun _ => trivial) rfl (by kernel_rfl) (fun _ _ _ _ h => h) hC rfl ?_; apply Exists.intro; refine ⟨?_, ?_⟩
  · rintro w ⟨r1, r2⟩; go_simp; try with_reducible rfl
  simp only [Act.put, List.setIfInBounds_toArray, List.set_cons_succ, List.set_cons_zero]
  refine Lim.stepR 19 (fun _ => trivial) rfl (by kernel_rfl) (fun _ _ _ _ h => h) hC rfl ?_; apply Exists.intro; refine ⟨?_, ?_⟩
  · rintro w ⟨r1, r2⟩; go_simp; try with_reducible rfl
  simp only [Act.put, List.setIfInBounds_toArray, List.set_cons_succ, List.set_cons_zero]
  refine Lim.stepR 20 (fun _ => trivial) rfl (by kernel_rfl) (fun _ _ _ _ h => h) hC rfl ?_; apply Exists.intro; refine ⟨?_, ?_⟩
  · rintro w ⟨r1, r2⟩; go_simp; try with_reducible rfl
  simp only [Act.put, List.setIfInBounds_toArray, List.set_cons_succ, List.set_cons_zero]
  refine Lim.stepR 21 (fun _ => trivial) rfl (by kernel_rfl) (fun _ _ _ _ h => h) hC rfl ?_; apply Exists.intro; refine ⟨?_, ?_⟩
  · rintro w ⟨r1, r2⟩; go_simp; try with_reducible rfl
  simp only [Act.put, List.setIfInBounds_toArray, List.set_cons_succ, List.set_cons_zero]
  refine Lim.stepR 22 (fun _ => trivial) rfl (by kernel_rfl) (fun _ _ _ _ h => h) hC rfl ?_; apply Exists.intro; refine ⟨?_, ?_⟩
  · rintro w ⟨r1, r2⟩; go_simp; try with_reducible rfl
  simp only [Act.put, List.setIfInBounds_toArray, List.set_cons_succ, List.set_cons_zero]
  refine Lim.stepR 23 (fun _ => trivial) rfl (by kernel_rfl) (fun _ _ _ _ h => h) hC rfl ?_; apply Exists.intro; refine ⟨?_, ?_⟩
  · rintro w ⟨r1, r2⟩; go_simp; try with_reducible rfl
  simp only [Act.put, List.setIfInBounds_toArray, List.set_cons_succ, List.set_cons_zero]
  refine Lim.stepE 24 (fun _ => trivial) rfl (by kernel_rfl) rfl (fun K hK => ?_)   -- E call
  have hb : Below w13.heap.size w13 w13.drew := (Below.refl _ _).drew
  generalize w13.drew = w14 at hb hC ⊢
  replace Rvr := Lib.hid (RS.on (B := 0) Rvr.out hb)
  replace Rvc := Lib.hid (RS.on (B := 0) Rvc.out hb)
  replace Rvl := Lib.hid (RS.on (B := 0) Rvl.out hb)
  replace Rvd := Lib.hid (RS.on (B := 0) Rvd.out hb)
  replace Rvm := Lib.hid (RS.on (B := 0) Rvm.out hb)
  replace HB := Lib.hid (HB.out.trans (hb.mono HB.out.size))
  replace HSP := Lib.hid (And.intro (cell_on hb HSP.out.1) (And.intro (cell_on hb HSP.out.2.1) (And.intro (frozen_on hb HSP.out.1 HSP.out.2.2.1) (frozen_on hb HSP.out.2.1 HSP.out.2.2.2))))
  clear hb
  go_simp
  refine ⟨rfl, (callsIn_wide.2 (span_any _ _ _)).mono ?_⟩
  rintro e w15 ⟨rfl, hb⟩
  replace Rvr := Lib.hid (RS.on (B := 0) Rvr.out hb)
  replace Rvc := Lib.hid (RS.on (B := 0) Rvc.out hb)
  replace Rvl := Lib.hid (RS.on (B := 0) Rvl.out hb)
  replace Rvd := Lib.hid (RS.on (B := 0) Rvd.out hb)
  replace Rvm := Lib.hid (RS.on (B := 0) Rvm.out hb)
  replace HB := Lib.hid (HB.out.trans (hb.mono HB.out.size))
  replace HSP := Lib.hid (And.intro (cell_on hb HSP.out.1) (And.intro (cell_on hb HSP.out.2.1) (And.intro (frozen_on hb HSP.out.1 HSP.out.2.2.1) (frozen_on hb HSP.out.2.1 HSP.out.2.2.2))))
  have hC0 : (fun W => W.cell? ⟨w2.heap.size, 0, none⟩ = some (.int .i64 7) ∧ W.cell? ⟨w2.heap.size, 1, none⟩ = some (.int .i64 9)) w15 := ⟨cell_on hb hC.1, cell_on hb hC.2⟩
  clear hC
  have hC := hC0
  clear hC0
  refine hK _ _ hC ?_
  clear hb
  simp only [Act.put, List.setIfInBounds_toArray, List.set_cons_succ, List.set_cons_zero]
  refine Lim.stepR 25 (fun _ => trivial) rfl (by kernel_rfl) (fun _ _ _ _ h => h) hC rfl ?_; apply Exists.intro; refine ⟨?_, ?_⟩
  · rintro w ⟨r1, r2⟩; go_simp; try with_reducible rfl
  simp only [Act.put, List.setIfInBounds_toArray, List.set_cons_succ, List.set_cons_zero]
  refine Lim.stepR 26 (fun _ => trivial) rfl (by kernel_rfl) (fun _ _ _ _ h => h) hC rfl ?_; apply Exists.intro; refine ⟨?_, ?_⟩
  · rintro w ⟨r1, r2⟩; go_simp; try with_reducible rfl
  simp only [Act.put, List.setIfInBounds_toArray, List.set_cons_succ, List.set_cons_zero]
  refine Lim.stepR 27 (fun _ => trivial) rfl (by kernel_rfl) (fun _ _ _ _ h => h) hC rfl ?_; apply Exists.intro; refine ⟨?_, ?_⟩
  · rintro w ⟨r1, r2⟩; go_simp; try with_reducible rfl
  simp only [Act.put, List.setIfInBounds_toArray, List.set_cons_succ, List.set_cons_zero]
  refine Lim.stepR 28 (fun _ => trivial) rfl (by kernel_rfl) (fun _ _ _ _ h => h) hC rfl ?_; apply Exists.intro; refine ⟨?_, ?_⟩
  · rintro w ⟨r1, r2⟩; go_simp; try with_reducible rfl
  simp only [Act.put, List.setIfInBounds_toArray, List.set_cons_succ, List.set_cons_zero]
  refine Lim.stepE 29 (fun _ => trivial) rfl (by kernel_rfl) rfl (fun K hK => ?_)   -- E buildSlice
  go_simp
  have hb : Below w15.heap.size w15 (w15.alloc (.cells #[.int .i64 2] 3)) := (Below.refl _ _).alloc (Nat.le_refl _) _
  have hn := rs_new (w := w15) (t := 3) (n := 1) (ints [2]) rfl
  have hC0 : (fun W => W.cell? ⟨w2.heap.size, 0, none⟩ = some (.int .i64 7) ∧ W.cell? ⟨w2.heap.size, 1, none⟩ = some (.int .i64 9)) (w15.alloc (.cells #[.int .i64 2] 3)) := ⟨cell_on hb hC.1, cell_on hb hC.2⟩
  refine hK _ _ hC0 ?_
  clear hC
  have hC := hC0
  clear hC0
  generalize hW : (w15.alloc (.cells #[.int .i64 2] 3)) = w16 at hb hC ⊢
  have hn : RS w16.heap.size w16 (.slice (some ⟨w15.heap.size, 0, none⟩) 1 1) 1 (ints [2]) := by rw [← hW]; exact hn
  clear hW
  replace Rvr := Lib.hid (RS.on (B := 0) Rvr.out hb)
  replace Rvc := Lib.hid (RS.on (B := 0) Rvc.out hb)
  replace Rvl := Lib.hid (RS.on (B := 0) Rvl.out hb)
  replace Rvd := Lib.hid (RS.on (B := 0) Rvd.out hb)
  replace Rvm := Lib.hid (RS.on (B := 0) Rvm.out hb)
  replace HB := Lib.hid (HB.out.trans (hb.mono HB.out.size))
  replace HSP := Lib.hid (And.intro (cell_on hb HSP.out.1) (And.intro (cell_on hb HSP.out.2.1) (And.intro (frozen_on hb HSP.out.1 HSP.out.2.2.1) (frozen_on hb HSP.out.2.1 HSP.out.2.2.2))))
  have HN := Lib.hid hn
  clear hn
  clear hb
  simp only [Act.put, List.setIfInBounds_toArray, List.set_cons_succ, List.set_cons_zero]
  refine Lim.stepE 30 (fun _ => trivial) rfl (by kernel_rfl) rfl (fun K hK => ?_)   -- E call
  go_simp
  refine ⟨rfl, (callsIn_wide.2 (eqi (l1 := [2]) (l2 := [2]) rfl (by decide) Rvr.out HN.out)).mono ?_⟩
  rintro e w17 ⟨rfl, hb⟩
  replace Rvr := Lib.hid (RS.on (B := 0) Rvr.out hb)
  replace Rvc := Lib.hid (RS.on (B := 0) Rvc.out hb)
  replace Rvl := Lib.hid (RS.on (B := 0) Rvl.out hb)
  replace Rvd := Lib.hid (RS.on (B := 0) Rvd.out hb)
  replace Rvm := Lib.hid (RS.on (B := 0) Rvm.out hb)
  replace HN := Lib.hid (RS.on (B := 0) HN.out hb)
  replace HB := Lib.hid (HB.out.trans (hb.mono HB.out.size))
  replace HSP := Lib.hid (And.intro (cell_on hb HSP.out.1) (And.intro (cell_on hb HSP.out.2.1) (And.intro (frozen_on hb HSP.out.1 HSP.out.2.2.1) (frozen_on hb HSP.out.2.1 HSP.out.2.2.2))))
  have hC0 : (fun W => W.cell? ⟨w2.heap.size, 0, none⟩ = some (.int .i64 7) ∧ W.cell? ⟨w2.heap.size, 1, none⟩ = some (.int .i64 9)) w17 := ⟨cell_on hb hC.1, cell_on hb hC.2⟩
  clear hC
  have hC := hC0
  clear hC0
  clear HN
  refine hK _ _ hC ?_
  clear hb
  simp only [Act.put, List.setIfInBounds_toArray, List.set_cons_succ, List.set_cons_zero]
  refine Lim.stepR 31 (fun _ => trivial) rfl (by kernel_rfl) (fun _ _ _ _ h => h) hC rfl ?_; apply Exists.intro; refine ⟨?_, ?_⟩
  · rintro w ⟨r1, r2⟩; go_simp; try with_reducible rfl
  simp only [Act.put, List.setIfInBounds_toArray, List.set_cons_succ, List.set_cons_zero]
  refine Lim.stepR 32 (fun _ => trivial) rfl (by kernel_rfl) (fun _ _ _ _ h => h) hC rfl ?_; apply Exists.intro; refine ⟨?_, ?_⟩
  · rintro w ⟨r1, r2⟩; go_simp; try with_reducible rfl
  simp only [Act.put, List.setIfInBounds_toArray, List.set_cons_succ, List.set_cons_zero]
  refine Lim.stepR 33 (fun _ => trivial) rfl (by kernel_rfl) (fun _ _ _ _ h => h) hC rfl ?_; apply Exists.intro; refine ⟨?_, ?_⟩
  · rintro w ⟨r1, r2⟩; go_simp; try with_reducible rfl
  simp only [Act.put, List.setIfInBounds_toArray, List.set_cons_succ, List.set_cons_zero]
  refine Lim.stepR 34 (fun _ => trivial) rfl (by kernel_rfl) (fun _ _ _ _ h => h) hC rfl ?_; apply Exists.intro; refine ⟨?_, ?_⟩
  · rintro w ⟨r1, r2⟩; go_simp; try with_reducible rfl
  simp only [Act.put, List.setIfInBounds_toArray, List.set_cons_succ, List.set_cons_zero]
  refine Lim.stepE 35 (fun _ => trivial) rfl (by kernel_rfl) rfl (fun K hK => ?_)   -- E buildSlice
  go_simp
  have hb : Below w17.heap.size w17 (w17.alloc (.cells #[.int .i64 1, .int .i64 2, .int .i64 3] 3)) := (Below.refl _ _).alloc (Nat.le_refl _) _
  have hn := rs_new (w := w17) (t := 3) (n := 3) (ints [1, 2, 3]) rfl
  have hC0 : (fun W => W.cell? ⟨w2.heap.size, 0, none⟩ = some (.int .i64 7) ∧ W.cell? ⟨w2.heap.size, 1, none⟩ = some (.int .i64 9)) (w17.alloc (.cells #[.int .i64 1, .int .i64 2, .int .i64 3] 3)) := ⟨cell_on hb hC.1, cell_on hb hC.2⟩
  refine hK _ _ hC0 ?_
  clear hC
  have hC := hC0
  clear hC0
  generalize hW : (w17.alloc (.cells #[.int .i64 1, .int .i64 2, .int .i64 3] 3)) = w18 at hb hC ⊢
  have hn : RS w18.heap.size w18 (.slice (some ⟨w17.heap.size, 0, none⟩) 3 3) 3 (ints [1, 2, 3]) := by rw [← hW]; exact hn
  clear hW
  replace Rvr := Lib.hid (RS.on (B := 0) Rvr.out hb)
  replace Rvc := Lib.hid (RS.on (B := 0) Rvc.out hb)
  replace Rvl := Lib.hid (RS.on (B := 0) Rvl.out hb)
  replace Rvd := Lib.hid (RS.on (B := 0) Rvd.out hb)
  replace Rvm := Lib.hid (RS.on (B := 0) Rvm.out hb)
  replace HB := Lib.hid (HB.out.trans (hb.mono HB.out.size))
  replace HSP := Lib.hid (And.intro (cell_on hb HSP.out.1) (And.intro (cell_on hb HSP.out.2.1) (And.intro (frozen_on hb HSP.out.1 HSP.out.2.2.1) (frozen_on hb HSP.out.2.1 HSP.out.2.2.2))))
  have HN := Lib.hid hn
  clear hn
  clear hb
  simp only [Act.put, List.setIfInBounds_toArray, List.set_cons_succ, List.set_cons_zero]
  refine Lim.stepE 36 (fun _ => trivial) rfl (by kernel_rfl) rfl (fun K hK => ?_)   -- E call
  go_simp
  refine ⟨rfl, (callsIn_wide.2 (eqi (l1 := [1, 2, 3]) (l2 := [1, 2, 3]) rfl (by decide) Rvc.out HN.out)).mono ?_⟩
  rintro e w19 ⟨rfl, hb⟩
  replace Rvr := Lib.hid (RS.on (B := 0) Rvr.out hb)
  replace Rvc := Lib.hid (RS.on (B := 0) Rvc.out hb)
  replace Rvl := Lib.hid (RS.on (B := 0) Rvl.out hb)
  replace Rvd := Lib.hid (RS.on (B := 0) Rvd.out hb)
  replace Rvm := Lib.hid (RS.on (B := 0) Rvm.out hb)
  replace HN := Lib.hid (RS.on (B := 0) HN.out hb)
  replace HB := Lib.hid (HB.out.trans (hb.mono HB.out.size))
  replace HSP := Lib.hid (And.intro (cell_on hb HSP.out.1) (And.intro (cell_on hb HSP.out.2.1) (And.intro (frozen_on hb HSP.out.1 HSP.out.2.2.1) (frozen_on hb HSP.out.2.1 HSP.out.2.2.2))))
  have hC0 : (fun W => W.cell? ⟨w2.heap.size, 0, none⟩ = some (.int .i64 7) ∧ W.cell? ⟨w2.heap.size, 1, none⟩ = some (.int .i64 9)) w19 := ⟨cell_on hb hC.1, cell_on hb hC.2⟩
  clear hC
  have hC := hC0
  clear hC0
  clear HN
  refine hK _ _ hC ?_
  clear hb
  simp only [Act.put, List.setIfInBounds_toArray, List.set_cons_succ, List.set_cons_zero]
  refine Lim.stepR 37 (fun _ => trivial) rfl (by kernel_rfl) (fun _ _ _ _ h => h) hC rfl ?_; apply Exists.intro; refine ⟨?_, ?_⟩
  · rintro w ⟨r1, r2⟩; go_simp; try with_reducible rfl
  simp only [Act.put, List.setIfInBounds_toArray, List.set_cons_succ, List.set_cons_zero]
  refine Lim.stepR 38 (fun _ => trivial) rfl (by kernel_rfl) (fun _ _ _ _ h => h) hC rfl ?_; apply Exists.intro; refine ⟨?_, ?_⟩
  · rintro w ⟨r1, r2⟩; go_simp; try with_reducible rfl
  simp only [Act.put, List.setIfInBounds_toArray, List.set_cons_succ, List.set_cons_zero]
  refine Lim.stepR 39 (fun _ => trivial) rfl (by kernel_rfl) (fun _ _ _ _ h => h) hC rfl ?_; apply Exists.intro; refine ⟨?_, ?_⟩
  · rintro w ⟨r1, r2⟩; go_simp; try with_reducible rfl
  simp only [Act.put, List.setIfInBounds_toArray, List.set_cons_succ, List.set_cons_zero]
  refine Lim.stepR 40 (fun _ => trivial) rfl (by kernel_rfl) (fun _ _ _ _ h => h) hC rfl ?_; apply Exists.intro; refine ⟨?_, ?_⟩
  · rintro w ⟨r1, r2⟩; go_simp; try with_reducible rfl
  simp only [Act.put, List.setIfInBounds_toArray, List.set_cons_succ, List.set_cons_zero]
  refine Lim.stepR 41 (fun _ => trivial) rfl (by kernel_rfl) (fun _ _ _ _ h => h) hC rfl ?_; apply Exists.intro; refine ⟨?_, ?_⟩
  · rintro w ⟨r1, r2⟩; go_simp; try with_reducible rfl
  simp only [Act.put, List.setIfInBounds_toArray, List.set_cons_succ, List.set_cons_zero]
  refine Lim.stepR 42 (fun _ => trivial) rfl (by kernel_rfl) (fun _ _ _ _ h => h) hC rfl ?_; apply Exists.intro; refine ⟨?_, ?_⟩
  · rintro w ⟨r1, r2⟩; go_simp; try with_reducible rfl
  simp only [Act.put, List.setIfInBounds_toArray, List.set_cons_succ, List.set_cons_zero]
  refine Lim.stepR 43 (fun _ => trivial) rfl (by kernel_rfl) (fun _ _ _ _ h => h) hC rfl ?_; apply Exists.intro; refine ⟨?_, ?_⟩
  · rintro w ⟨r1, r2⟩; go_simp; try with_reducible rfl
  simp only [Act.put, List.setIfInBounds_toArray, List.set_cons_succ, List.set_cons_zero]
  refine Lim.stepR 44 (fun _ => trivial) rfl (by kernel_rfl) (fun _ _ _ _ h => h) hC rfl ?_; apply Exists.intro; refine ⟨?_, ?_⟩
  · rintro w ⟨r1, r2⟩; go_simp; try with_reducible rfl
  simp only [Act.put, List.setIfInBounds_toArray, List.set_cons_succ, List.set_cons_zero]
  refine Lim.stepR 45 (fun _ => trivial) rfl (by kernel_rfl) (fun _ _ _ _ h => h) hC rfl ?_; apply Exists.intro; refine ⟨?_, ?_⟩
  · rintro w ⟨r1, r2⟩; go_simp; try with_reducible rfl
  simp only [Act.put, List.setIfInBounds_toArray, List.set_cons_succ, List.set_cons_zero]
  refine Lim.stepE 46 (fun _ => trivial) rfl (by kernel_rfl) rfl (fun K hK => ?_)   -- E buildSlice
  go_simp
  have hb : Below w19.heap.size w19 (w19.alloc (.cells #[.bool true, .bool false, .bool false, .bool true, .bool false, .bool false, .bool true, .bool false, .bool true, .bool false, .bool true, .bool true, .bool false, .bool true, .bool false] 41)) := (Below.refl _ _).alloc (Nat.le_refl _) _
  have hn := rs_new (w := w19) (t := 41) (n := 5) (sideCells want48) rfl
  have hC0 : (fun W => W.cell? ⟨w2.heap.size, 0, none⟩ = some (.int .i64 7) ∧ W.cell? ⟨w2.heap.size, 1, none⟩ = some (.int .i64 9)) (w19.alloc (.cells #[.bool true, .bool false, .bool false, .bool true, .bool false, .bool false, .bool true, .bool false, .bool true, .bool false, .bool true, .bool true, .bool false, .bool true, .bool false] 41)) := ⟨cell_on hb hC.1, cell_on hb hC.2⟩
  refine hK _ _ hC0 ?_
  clear hC
  have hC := hC0
  clear hC0
  generalize hW : (w19.alloc (.cells #[.bool true, .bool false, .bool false, .bool true, .bool false, .bool false, .bool true, .bool false, .bool true, .bool false, .bool true, .bool true, .bool false, .bool true, .bool false] 41)) = w20 at hb hC ⊢
  have hn : RS w20.heap.size w20 (.slice (some ⟨w19.heap.size, 0, none⟩) 5 5) 5 (sideCells want48) := by rw [← hW]; exact hn
  clear hW
  replace Rvr := Lib.hid (RS.on (B := 0) Rvr.out hb)
  replace Rvc := Lib.hid (RS.on (B := 0) Rvc.out hb)
  replace Rvl := Lib.hid (RS.on (B := 0) Rvl.out hb)
  replace Rvd := Lib.hid (RS.on (B := 0) Rvd.out hb)
  replace Rvm := Lib.hid (RS.on (B := 0) Rvm.out hb)
  replace HB := Lib.hid (HB.out.trans (hb.mono HB.out.size))
  replace HSP := Lib.hid (And.intro (cell_on hb HSP.out.1) (And.intro (cell_on hb HSP.out.2.1) (And.intro (frozen_on hb HSP.out.1 HSP.out.2.2.1) (frozen_on hb HSP.out.2.1 HSP.out.2.2.2))))
  have HN := Lib.hid hn
  clear hn
  clear hb
  simp only [Act.put, List.setIfInBounds_toArray, List.set_cons_succ, List.set_cons_zero]
  refine Lim.stepE 47 (fun _ => trivial) rfl (by kernel_rfl) rfl (fun K hK => ?_)   -- E call
  go_simp
  refine ⟨rfl, (callsIn_wide.2 (eqd (l1 := want48) (l2 := want48) rfl (by decide) Rvl.out HN.out)).mono ?_⟩
  rintro e w21 ⟨rfl, hb⟩
  replace Rvr := Lib.hid (RS.on (B := 0) Rvr.out hb)
  replace Rvc := Lib.hid (RS.on (B := 0) Rvc.out hb)
  replace Rvl := Lib.hid (RS.on (B := 0) Rvl.out hb)
  replace Rvd := Lib.hid (RS.on (B := 0) Rvd.out hb)
  replace Rvm := Lib.hid (RS.on (B := 0) Rvm.out hb)
  replace HN := Lib.hid (RS.on (B := 0) HN.out hb)
  replace HB := Lib.hid (HB.out.trans (hb.mono HB.out.size))
  replace HSP := Lib.hid (And.intro (cell_on hb HSP.out.1) (And.intro (cell_on hb HSP.out.2.1) (And.intro (frozen_on hb HSP.out.1 HSP.out.2.2.1) (frozen_on hb HSP.out.2.1 HSP.out.2.2.2))))
  have hC0 : (fun W => W.cell? ⟨w2.heap.size, 0, none⟩ = some (.int .i64 7) ∧ W.cell? ⟨w2.heap.size, 1, none⟩ = some (.int .i64 9)) w21 := ⟨cell_on hb hC.1, cell_on hb hC.2⟩
  clear hC
  have hC := hC0
  clear hC0
  clear HN
  refine hK _ _ hC ?_
  clear hb
  simp only [Act.put, List.setIfInBounds_toArray, List.set_cons_succ, List.set_cons_zero]
  refine Lim.stepR 48 (fun _ => trivial) rfl (by kernel_rfl) (fun _ _ _ _ h => h) hC rfl ?_; apply Exists.intro; refine ⟨?_, ?_⟩
  · rintro w ⟨r1, r2⟩; go_simp; try with_reducible rfl
  simp only [Act.put, List.setIfInBounds_toArray, List.set_cons_succ, List.set_cons_zero]
  refine Lim.stepR 49 (fun _ => trivial) rfl (by kernel_rfl) (fun _ _ _ _ h => h) hC rfl ?_; apply Exists.intro; refine ⟨?_, ?_⟩
  · rintro w ⟨r1, r2⟩; go_simp; try with_reducible rfl
  simp only [Act.put, List.setIfInBounds_toArray, List.set_cons_succ, List.set_cons_zero]
  refine Lim.stepR 50 (fun _ => trivial) rfl (by kernel_rfl) (fun _ _ _ _ h => h) hC rfl ?_; apply Exists.intro; refine ⟨?_, ?_⟩
  · rintro w ⟨r1, r2⟩; go_simp; try with_reducible rfl
  simp only [Act.put, List.setIfInBounds_toArray, List.set_cons_succ, List.set_cons_zero]
  refine Lim.stepR 51 (fun _ => trivial) rfl (by kernel_rfl) (fun _ _ _ _ h => h) hC rfl ?_; apply Exists.intro; refine ⟨?_, ?_⟩
  · rintro w ⟨r1, r2⟩; go_simp; try with_reducible rfl
  simp only [Act.put, List.setIfInBounds_toArray, List.set_cons_succ, List.set_cons_zero]
  refine Lim.stepE 52 (fun _ => trivial) rfl (by kernel_rfl) rfl (fun K hK => ?_)   -- E buildSlice
  go_simp
  have hb : Below w21.heap.size w21 (w21.alloc (.cells #[.int .i64 2, .int .i64 3] 3)) := (Below.refl _ _).alloc (Nat.le_refl _) _
  have hn := rs_new (w := w21) (t := 3) (n := 2) (ints [2, 3]) rfl
  have hC0 : (fun W => W.cell? ⟨w2.heap.size, 0, none⟩ = some (.int .i64 7) ∧ W.cell? ⟨w2.heap.size, 1, none⟩ = some (.int .i64 9)) (w21.alloc (.cells #[.int .i64 2, .int .i64 3] 3)) := ⟨cell_on hb hC.1, cell_on hb hC.2⟩
  refine hK _ _ hC0 ?_
  clear hC
  have hC := hC0
  clear hC0
  generalize hW : (w21.alloc (.cells #[.int .i64 2, .int .i64 3] 3)) = w22 at hb hC ⊢
  have hn : RS w22.heap.size w22 (.slice (some ⟨w21.heap.size, 0, none⟩) 2 2) 2 (ints [2, 3]) := by rw [← hW]; exact hn
  clear hW
  replace Rvr := Lib.hid (RS.on (B := 0) Rvr.out hb)
  replace Rvc := Lib.hid (RS.on (B := 0) Rvc.out hb)
  replace Rvl := Lib.hid (RS.on (B := 0) Rvl.out hb)
  replace Rvd := Lib.hid (RS.on (B := 0) Rvd.out hb)
  replace Rvm := Lib.hid (RS.on (B := 0) Rvm.out hb)
  replace HB := Lib.hid (HB.out.trans (hb.mono HB.out.size))
  replace HSP := Lib.hid (And.intro (cell_on hb HSP.out.1) (And.intro (cell_on hb HSP.out.2.1) (And.intro (frozen_on hb HSP.out.1 HSP.out.2.2.1) (frozen_on hb HSP.out.2.1 HSP.out.2.2.2))))
  have HN := Lib.hid hn
  clear hn
  clear hb
  simp only [Act.put, List.setIfInBounds_toArray, List.set_cons_succ, List.set_cons_zero]
  refine Lim.stepE 53 (fun _ => trivial) rfl (by kernel_rfl) rfl (fun K hK => ?_)   -- E call
  go_simp
  refine ⟨rfl, (callsIn_wide.2 (eqi (l1 := [2, 3]) (l2 := [2, 3]) rfl (by decide) Rvd.out HN.out)).mono ?_⟩
  rintro e w23 ⟨rfl, hb⟩
  replace Rvr := Lib.hid (RS.on (B := 0) Rvr.out hb)
  replace Rvc := Lib.hid (RS.on (B := 0) Rvc.out hb)
  replace Rvl := Lib.hid (RS.on (B := 0) Rvl.out hb)
  replace Rvd := Lib.hid (RS.on (B := 0) Rvd.out hb)
  replace Rvm := Lib.hid (RS.on (B := 0) Rvm.out hb)
  replace HN := Lib.hid (RS.on (B := 0) HN.out hb)
  replace HB := Lib.hid (HB.out.trans (hb.mono HB.out.size))
  replace HSP := Lib.hid (And.intro (cell_on hb HSP.out.1) (And.intro (cell_on hb HSP.out.2.1) (And.intro (frozen_on hb HSP.out.1 HSP.out.2.2.1) (frozen_on hb HSP.out.2.1 HSP.out.2.2.2))))
  have hC0 : (fun W => W.cell? ⟨w2.heap.size, 0, none⟩ = some (.int .i64 7) ∧ W.cell? ⟨w2.heap.size, 1, none⟩ = some (.int .i64 9)) w23 := ⟨cell_on hb hC.1, cell_on hb hC.2⟩
  clear hC
  have hC := hC0
  clear hC0
  clear HN
  refine hK _ _ hC ?_
  clear hb
  simp only [Act.put, List.setIfInBounds_toArray, List.set_cons_succ, List.set_cons_zero]
  refine Lim.stepR 54 (fun _ => trivial) rfl (by kernel_rfl) (fun _ _ _ _ h => h) hC rfl ?_; apply Exists.intro; refine ⟨?_, ?_⟩
  · rintro w ⟨r1, r2⟩; go_simp; try with_reducible rfl
  simp only [Act.put, List.setIfInBounds_toArray, List.set_cons_succ, List.set_cons_zero]
  refine Lim.stepR 55 (fun _ => trivial) rfl (by kernel_rfl) (fun _ _ _ _ h => h) hC rfl ?_; apply Exists.intro; refine ⟨?_, ?_⟩
  · rintro w ⟨r1, r2⟩; go_simp; try with_reducible rfl
  simp only [Act.put, List.setIfInBounds_toArray, List.set_cons_succ, List.set_cons_zero]
  refine Lim.stepR 56 (fun _ => trivial) rfl (by kernel_rfl) (fun _ _ _ _ h => h) hC rfl ?_; apply Exists.intro; refine ⟨?_, ?_⟩
  · rintro w ⟨r1, r2⟩; go_simp; try with_reducible rfl
  simp only [Act.put, List.setIfInBounds_toArray, List.set_cons_succ, List.set_cons_zero]
  refine Lim.stepR 57 (fun _ => trivial) rfl (by kernel_rfl) (fun _ _ _ _ h => h) hC rfl ?_; apply Exists.intro; refine ⟨?_, ?_⟩
  · rintro w ⟨r1, r2⟩; go_simp; try with_reducible rfl
  simp only [Act.put, List.setIfInBounds_toArray, List.set_cons_succ, List.set_cons_zero]
  refine Lim.stepE 58 (fun _ => trivial) rfl (by kernel_rfl) rfl (fun K hK => ?_)   -- E buildSlice
  go_simp
  have hb : Below w23.heap.size w23 (w23.alloc (.cells #[.int .i64 2, .int .i64 3] 3)) := (Below.refl _ _).alloc (Nat.le_refl _) _
  have hn := rs_new (w := w23) (t := 3) (n := 2) (ints [2, 3]) rfl
  have hC0 : (fun W => W.cell? ⟨w2.heap.size, 0, none⟩ = some (.int .i64 7) ∧ W.cell? ⟨w2.heap.size, 1, none⟩ = some (.int .i64 9)) (w23.alloc (.cells #[.int .i64 2, .int .i64 3] 3)) := ⟨cell_on hb hC.1, cell_on hb hC.2⟩
  refine hK _ _ hC0 ?_
  clear hC
  have hC := hC0
  clear hC0
  generalize hW : (w23.alloc (.cells #[.int .i64 2, .int .i64 3] 3)) = w24 at hb hC ⊢
  have hn : RS w24.heap.size w24 (.slice (some ⟨w23.heap.size, 0, none⟩) 2 2) 2 (ints [2, 3]) := by rw [← hW]; exact hn
  clear hW
  replace Rvr := Lib.hid (RS.on (B := 0) Rvr.out hb)
  replace Rvc := Lib.hid (RS.on (B := 0) Rvc.out hb)
  replace Rvl := Lib.hid (RS.on (B := 0) Rvl.out hb)
  replace Rvd := Lib.hid (RS.on (B := 0) Rvd.out hb)
  replace Rvm := Lib.hid (RS.on (B := 0) Rvm.out hb)
  replace HB := Lib.hid (HB.out.trans (hb.mono HB.out.size))
  replace HSP := Lib.hid (And.intro (cell_on hb HSP.out.1) (And.intro (cell_on hb HSP.out.2.1) (And.intro (frozen_on hb HSP.out.1 HSP.out.2.2.1) (frozen_on hb HSP.out.2.1 HSP.out.2.2.2))))
  have HN := Lib.hid hn
  clear hn
  clear hb
  simp only [Act.put, List.setIfInBounds_toArray, List.set_cons_succ, List.set_cons_zero]
  refine Lim.stepE 59 (fun _ => trivial) rfl (by kernel_rfl) rfl (fun K hK => ?_)   -- E call
  go_simp
  refine ⟨rfl, (callsIn_wide.2 (eqi (l1 := [2, 3]) (l2 := [2, 3]) rfl (by decide) Rvm.out HN.out)).mono ?_⟩
  rintro e w25 ⟨rfl, hb⟩
  replace Rvr := Lib.hid (RS.on (B := 0) Rvr.out hb)
  replace Rvc := Lib.hid (RS.on (B := 0) Rvc.out hb)
  replace Rvl := Lib.hid (RS.on (B := 0) Rvl.out hb)
  replace Rvd := Lib.hid (RS.on (B := 0) Rvd.out hb)
  replace Rvm := Lib.hid (RS.on (B := 0) Rvm.out hb)
  replace HN := Lib.hid (RS.on (B := 0) HN.out hb)
  replace HB := Lib.hid (HB.out.trans (hb.mono HB.out.size))
  replace HSP := Lib.hid (And.intro (cell_on hb HSP.out.1) (And.intro (cell_on hb HSP.out.2.1) (And.intro (frozen_on hb HSP.out.1 HSP.out.2.2.1) (frozen_on hb HSP.out.2.1 HSP.out.2.2.2))))
  have hC0 : (fun W => W.cell? ⟨w2.heap.size, 0, none⟩ = some (.int .i64 7) ∧ W.cell? ⟨w2.heap.size, 1, none⟩ = some (.int .i64 9)) w25 := ⟨cell_on hb hC.1, cell_on hb hC.2⟩
  clear hC
  have hC := hC0
  clear hC0
  clear HN
  refine hK _ _ hC ?_
  clear hb
  simp only [Act.put, List.setIfInBounds_toArray, List.set_cons_succ, List.set_cons_zero]
  refine Lim.stepR 60 (fun _ => trivial) rfl (by kernel_rfl) (fun _ _ _ _ h => h) hC rfl ?_; apply Exists.intro; refine ⟨?_, ?_⟩
  · rintro w ⟨r1, r2⟩; go_simp; try with_reducible rfl
  simp only [Act.put, List.setIfInBounds_toArray, List.set_cons_succ, List.set_cons_zero]
  refine Lim.stepR 61 (fun _ => trivial) rfl (by kernel_rfl) (fun _ _ _ _ h => h) hC rfl ?_; apply Exists.intro; refine ⟨?_, ?_⟩
  · rintro w ⟨r1, r2⟩; go_simp; try with_reducible rfl
  simp only [Act.put, List.setIfInBounds_toArray, List.set_cons_succ, List.set_cons_zero]
  refine Lim.stepD (by kernel_rfl) ?_
  clear hC
  clear Rvr Rvc Rvl Rvd Rvm
  go_wp2_with fail
  refine (Rows_any _).mono ?_
  rintro e w26 ⟨hv, sv, rfl, hh, hs, hb⟩
  replace HB := Lib.hid (HB.out.trans (hb.mono HB.out.size))
  replace HSP := Lib.hid (And.intro (cell_on hb HSP.out.1) (And.intro (cell_on hb HSP.out.2.1) (And.intro (frozen_on hb HSP.out.1 HSP.out.2.2.1) (frozen_on hb HSP.out.2.1 HSP.out.2.2.2))))
  have GH := Lib.hid hh
  have GS := Lib.hid hs
  clear hb hh hs
  go_wp2_with fail
  refine (c_sad36 GH.out GS.out).mono ?_
  rintro e w27 ⟨rfl, hb⟩
  replace GH := Lib.hid (RS.on (B := 0) GH.out hb)
  replace GS := Lib.hid (RS.on (B := 0) GS.out hb)
  replace HB := Lib.hid (HB.out.trans (hb.mono HB.out.size))
  replace HSP := Lib.hid (And.intro (cell_on hb HSP.out.1) (And.intro (cell_on hb HSP.out.2.1) (And.intro (frozen_on hb HSP.out.1 HSP.out.2.2.1) (frozen_on hb HSP.out.2.1 HSP.out.2.2.2))))
  clear hb
  clear GH GS
  obtain ⟨hsp0, hsp1, hsp2, hsp3⟩ := HSP.out
  go_wp2_with fail
  obtain ⟨u0, u1⟩ := span_set (w := w27) (.int .i64 2) (.int .i64 5) hsp0 hsp1
  have u2 : ((w27.setCell ⟨w2.heap.size, 0, none⟩ (.int .i64 2)).setCell ⟨w2.heap.size, 1, none⟩ (.int .i64 5)).frozen? ⟨w2.heap.size, 0, none⟩ = false := by rw [World.frozen?_setCell, World.frozen?_setCell]; exact hsp2
  have u3 : ((w27.setCell ⟨w2.heap.size, 0, none⟩ (.int .i64 2)).setCell ⟨w2.heap.size, 1, none⟩ (.int .i64 5)).frozen? ⟨w2.heap.size, 1, none⟩ = false := by rw [World.frozen?_setCell, World.frozen?_setCell]; exact hsp3
  have ub : Below w.heap.size w ((w27.setCell ⟨w2.heap.size, 0, none⟩ (.int .i64 2)).setCell ⟨w2.heap.size, 1, none⟩ (.int .i64 5)) := (HB.out.setCell (p := ⟨w2.heap.size, 0, none⟩) HS2.out _).setCell (p := ⟨w2.heap.size, 1, none⟩) HS2.out _
  clear HB HSP hsp0 hsp1 hsp2 hsp3
  generalize ((w27.setCell ⟨w2.heap.size, 0, none⟩ (.int .i64 2)).setCell ⟨w2.heap.size, 1, none⟩ (.int .i64 5)) = w28 at u0 u1 u2 u3 ub ⊢
  have HSP := Lib.hid (And.intro u0 (And.intro u1 (And.intro u2 u3)))
  have HB := Lib.hid ub
  clear u0 u1 u2 u3 ub
  refine (Rows_any _).mono ?_
  rintro e w29 ⟨hv, sv, rfl, hh, hs, hb⟩
  replace HB := Lib.hid (HB.out.trans (hb.mono HB.out.size))
  replace HSP := Lib.hid (And.intro (cell_on hb HSP.out.1) (And.intro (cell_on hb HSP.out.2.1) (And.intro (frozen_on hb HSP.out.1 HSP.out.2.2.1) (frozen_on hb HSP.out.2.1 HSP.out.2.2.2))))
  have GH := Lib.hid hh
  have GS := Lib.hid hs
  clear hb hh hs
  go_wp2_with fail
  refine (c_ridge36 GH.out GS.out).mono ?_
  rintro e w30 ⟨vr, rfl, hr, hb⟩
  replace GH := Lib.hid (RS.on (B := 0) GH.out hb)
  replace GS := Lib.hid (RS.on (B := 0) GS.out hb)
  replace HB := Lib.hid (HB.out.trans (hb.mono HB.out.size))
  replace HSP := Lib.hid (And.intro (cell_on hb HSP.out.1) (And.intro (cell_on hb HSP.out.2.1) (And.intro (frozen_on hb HSP.out.1 HSP.out.2.2.1) (frozen_on hb HSP.out.2.1 HSP.out.2.2.2))))
  have Rvr := Lib.hid hr
  clear hb hr
  clear GH GS
  go_wp2_with fail
  refine (Rows_any _).mono ?_
  rintro e w31 ⟨hv, sv, rfl, hh, hs, hb⟩
  replace Rvr := Lib.hid (RS.on (B := 0) Rvr.out hb)
  replace HB := Lib.hid (HB.out.trans (hb.mono HB.out.size))
  replace HSP := Lib.hid (And.intro (cell_on hb HSP.out.1) (And.intro (cell_on hb HSP.out.2.1) (And.intro (frozen_on hb HSP.out.1 HSP.out.2.2.1) (frozen_on hb HSP.out.2.1 HSP.out.2.2.2))))
  have GH := Lib.hid hh
  have GS := Lib.hid hs
  clear hb hh hs
  go_wp2_with fail
  refine (c_passes36 GH.out GS.out).mono ?_
  rintro e w32 ⟨vp, rfl, hr, hb⟩
  replace Rvr := Lib.hid (RS.on (B := 0) Rvr.out hb)
  replace GH := Lib.hid (RS.on (B := 0) GH.out hb)
  replace GS := Lib.hid (RS.on (B := 0) GS.out hb)
  replace HB := Lib.hid (HB.out.trans (hb.mono HB.out.size))
  replace HSP := Lib.hid (And.intro (cell_on hb HSP.out.1) (And.intro (cell_on hb HSP.out.2.1) (And.intro (frozen_on hb HSP.out.1 HSP.out.2.2.1) (frozen_on hb HSP.out.2.1 HSP.out.2.2.2))))
  have Rvp := Lib.hid hr
  clear hb hr
  clear GH GS
  go_wp2_with fail
  refine (Row_any 4 6 _).mono ?_
  rintro e w33 ⟨hv, sv, rfl, hh, hs, hb⟩
  replace Rvr := Lib.hid (RS.on (B := 0) Rvr.out hb)
  replace Rvp := Lib.hid (RS.on (B := 0) Rvp.out hb)
  replace HB := Lib.hid (HB.out.trans (hb.mono HB.out.size))
  replace HSP := Lib.hid (And.intro (cell_on hb HSP.out.1) (And.intro (cell_on hb HSP.out.2.1) (And.intro (frozen_on hb HSP.out.1 HSP.out.2.2.1) (frozen_on hb HSP.out.2.1 HSP.out.2.2.2))))
  have GH := Lib.hid hh
  have GS := Lib.hid hs
  clear hb hh hs
  go_wp2_with fail
  refine (c_doubt46 GH.out GS.out).mono ?_
  rintro e w34 ⟨vd, rfl, hr, hb⟩
  replace Rvr := Lib.hid (RS.on (B := 0) Rvr.out hb)
  replace Rvp := Lib.hid (RS.on (B := 0) Rvp.out hb)
  replace GH := Lib.hid (RS.on (B := 0) GH.out hb)
  replace GS := Lib.hid (RS.on (B := 0) GS.out hb)
  replace HB := Lib.hid (HB.out.trans (hb.mono HB.out.size))
  replace HSP := Lib.hid (And.intro (cell_on hb HSP.out.1) (And.intro (cell_on hb HSP.out.2.1) (And.intro (frozen_on hb HSP.out.1 HSP.out.2.2.1) (frozen_on hb HSP.out.2.1 HSP.out.2.2.2))))
  have Rvd := Lib.hid hr
  clear hb hr
  clear GH GS
  obtain ⟨ad, cd, rfl, -⟩ := Rvd.out
  clear Rvd
  go_wp2_with fail
  refine (Row_any 4 6 _).mono ?_
  rintro e w35 ⟨hv, sv, rfl, hh, hs, hb⟩
  replace Rvr := Lib.hid (RS.on (B := 0) Rvr.out hb)
  replace Rvp := Lib.hid (RS.on (B := 0) Rvp.out hb)
  replace HB := Lib.hid (HB.out.trans (hb.mono HB.out.size))
  replace HSP := Lib.hid (And.intro (cell_on hb HSP.out.1) (And.intro (cell_on hb HSP.out.2.1) (And.intro (frozen_on hb HSP.out.1 HSP.out.2.2.1) (frozen_on hb HSP.out.2.1 HSP.out.2.2.2))))
  have GH := Lib.hid hh
  have GS := Lib.hid hs
  clear hb hh hs
  go_wp2_with fail
  refine (c_saddles46 GH.out GS.out).mono ?_
  rintro e w36 ⟨vm, rfl, hr, hb⟩
  replace Rvr := Lib.hid (RS.on (B := 0) Rvr.out hb)
  replace Rvp := Lib.hid (RS.on (B := 0) Rvp.out hb)
  replace GH := Lib.hid (RS.on (B := 0) GH.out hb)
  replace GS := Lib.hid (RS.on (B := 0) GS.out hb)
  replace HB := Lib.hid (HB.out.trans (hb.mono HB.out.size))
  replace HSP := Lib.hid (And.intro (cell_on hb HSP.out.1) (And.intro (cell_on hb HSP.out.2.1) (And.intro (frozen_on hb HSP.out.1 HSP.out.2.2.1) (frozen_on hb HSP.out.2.1 HSP.out.2.2.2))))
  have Rvm := Lib.hid hr
  clear hb hr
  clear GH GS
  go_wp2_with fail
  have hC : (fun W => W.cell? ⟨w2.heap.size, 0, none⟩ = some (.int .i64 2) ∧ W.cell? ⟨w2.heap.size, 1, none⟩ = some (.int .i64 5)) w36.drew := ⟨HSP.out.1, HSP.out.2.1⟩
  refine Lim.regC' (fun W => W.cell? ⟨w2.heap.size, 0, none⟩ = some (.int .i64 2) ∧ W.cell? ⟨w2.heap.size, 1, none⟩ = some (.int .i64 5)) [] #[false, false, false, false, false, false, false, false, false, false, false, false, false, false, false, false, false, false, false, false, false, false, false, false, false, false, false, false, false, false, false, false, false, false, false, false, false, false, false, false, false, false, false, false, false, false, false, false, false, false] (by kernel_rfl) rfl ?_
  refine Lim.stepR 0 (fun _ => trivial) rfl (by kernel_rfl) (fun _ _ _ _ h => h) hC rfl ?_; apply Exists.intro; refine ⟨?_, ?_⟩
  · rintro w ⟨r1, r2⟩; go_simp; try with_reducible rfl
  simp only [Act.put, List.setIfInBounds_toArray, List.set_cons_succ, List.set_cons_zero]
  refine Lim.stepR 1 (fun _ => trivial) rfl (by kernel_rfl) (fun _ _ _ _ h => h) hC rfl ?_; apply Exists.intro; refine ⟨?_, ?_⟩
  · rintro w ⟨r1, r2⟩; go_simp; try with_reducible rfl
  simp only [Act.put, List.setIfInBounds_toArray, List.set_cons_succ, List.set_cons_zero]
  refine Lim.stepR 2 (fun _ => trivial) rfl (by kernel_rfl) (fun _ _ _ _ h => h) hC rfl ?_; apply Exists.intro; refine ⟨?_, ?_⟩
  · rintro w ⟨r1, r2⟩; go_simp; try with_reducible rfl
  simp only [Act.put, List.setIfInBounds_toArray, List.set_cons_succ, List.set_cons_zero]
  refine Lim.stepR 3 (fun _ => trivial) rfl (by kernel_rfl) (fun _ _ _ _ h => h) hC rfl ?_; apply Exists.intro; refine ⟨?_, ?_⟩
  · rintro w ⟨r1, r2⟩; go_simp; try with_reducible rfl
  simp only [Act.put, List.setIfInBounds_toArray, List.set_cons_succ, List.set_cons_zero]
  refine Lim.stepR 4 (fun _ => trivial) rfl (by kernel_rfl) (fun _ _ _ _ h => h) hC rfl ?_; apply Exists.intro; refine ⟨?_, ?_⟩
  · rintro w ⟨r1, r2⟩; go_simp; try with_reducible rfl
  simp only [Act.put, List.setIfInBounds_toArray, List.set_cons_succ, List.set_cons_zero]
  refine Lim.stepR 5 (fun _ => trivial) rfl (by kernel_rfl) (fun _ _ _ _ h => h) hC rfl ?_; apply Exists.intro; refine ⟨?_, ?_⟩
  · rintro w ⟨r1, r2⟩; go_simp; try with_reducible rfl
  simp only [Act.put, List.setIfInBounds_toArray, List.set_cons_succ, List.set_cons_zero]
  refine Lim.stepR 6 (fun _ => trivial) rfl (by kernel_rfl) (fun _ _ _ _ h => h) hC rfl ?_; apply Exists.intro; refine ⟨?_, ?_⟩
  · rintro w ⟨r1, r2⟩; go_simp; try with_reducible rfl
  simp only [Act.put, List.setIfInBounds_toArray, List.set_cons_succ, List.set_cons_zero]
  refine Lim.stepR 7 (fun _ => trivial) rfl (by kernel_rfl) (fun _ _ _ _ h => h) hC rfl ?_; apply Exists.intro; refine ⟨?_, ?_⟩
  · rintro w ⟨r1, r2⟩; go_simp; try with_reducible rfl
  simp only [Act.put, List.setIfInBounds_toArray, List.set_cons_succ, List.set_cons_zero]
  refine Lim.stepR 8 (fun _ => trivial) rfl (by kernel_rfl) (fun _ _ _ _ h => h) hC rfl ?_; apply Exists.intro; refine ⟨?_, ?_⟩
  · rintro w ⟨r1, r2⟩; go_simp; try with_reducible rfl
  simp only [Act.put, List.setIfInBounds_toArray, List.set_cons_succ, List.set_cons_zero]
  refine Lim.stepR 9 (fun _ => trivial) rfl (by kernel_rfl) (fun _ _ _ _ h => h) hC rfl ?_; apply Exists.intro; refine ⟨?_, ?_⟩
  · rintro w ⟨r1, r2⟩; go_simp; try with_reducible rfl
  simp only [Act.put, List.setIfInBounds_toArray, List.set_cons_succ, List.set_cons_zero]
  refine Lim.stepR 10 (fun _ => trivial) rfl (by kernel_rfl) (fun _ _ _ _ h => h) hC rfl ?_; apply Exists.intro; refine ⟨?_, ?_⟩
  · rintro w ⟨r1, r2⟩; go_simp; try with_reducible rfl
  simp only [Act.put, List.setIfInBounds_toArray, List.set_cons_succ, List.set_cons_zero]
  refine Lim.stepR 11 (fun _ => trivial) rfl (by kernel_rfl) (fun _ _ _ _ h => h) hC rfl ?_; apply Exists.intro; refine ⟨?_, ?_⟩
  · rintro w ⟨r1, r2⟩; go_simp; try with_reducible rfl
  simp only [Act.put, List.setIfInBounds_toArray, List.set_cons_succ, List.set_cons_zero]
  refine Lim.stepR 12 (fun _ => trivial) rfl (by kernel_rfl) (fun _ _ _ _ h => h) hC rfl ?_; apply Exists.intro; refine ⟨?_, ?_⟩
  · rintro w ⟨r1, r2⟩; go_simp; try with_reducible rfl
  simp only [Act.put, List.setIfInBounds_toArray, List.set_cons_succ, List.set_cons_zero]
  refine Lim.stepR 13 (fun _ => trivial) rfl (by kernel_rfl) (fun _ _ _ _ h => h) hC rfl ?_; apply Exists.intro; refine ⟨?_, ?_⟩
  · rintro w ⟨r1, r2⟩; go_simp; try with_reducible rfl
  simp only [Act.put, List.setIfInBounds_toArray, List.set_cons_succ, List.set_cons_zero]
  refine Lim.stepR 14 (fun _ => trivial) rfl (by kernel_rfl) (fun _ _ _ _ h => h) hC rfl ?_; apply Exists.intro; refine ⟨?_, ?_⟩
  · rintro w ⟨r1, r2⟩; go_simp; try with_reducible rfl
  simp only [Act.put, List.setIfInBounds_toArray, List.set_cons_succ, List.set_cons_zero]
  refine Lim.stepR 15 (fun _ => trivial) rfl (by kernel_rfl) (fun _ _ _ _ h => h) hC rfl ?_; apply Exists.intro; refine ⟨?_, ?_⟩
  · rintro w ⟨r1, r2⟩; go_simp; try with_reducible rfl
  simp only [Act.put, List.setIfInBounds_toArray, List.set_cons_succ, List.set_cons_zero]
  refine Lim.stepR 16 (fun _ => trivial) rfl (by kernel_rfl) (fun _ _ _ _ h => h) hC rfl ?_; apply Exists.intro; refine ⟨?_, ?_⟩
  · rintro w ⟨r1, r2⟩; go_simp; try with_reducible rfl
  simp only [Act.put, List.setIfInBounds_toArray, List.set_cons_succ, List.set_cons_zero]
  refine Lim.stepR 17 (fun _ => trivial) rfl (by kernel_rfl) (fun _ _ _ _ h => h) hC rfl ?_; apply Exists.intro; refine ⟨?_, ?_⟩
  · rintro w ⟨r1, r2⟩; go_simp; try with_reducible rfl
  simp only [Act.put, List.setIfInBounds_toArray, List.set_cons_succ, List.set_cons_zero]
  refine Lim.stepR 18 (fun _ => trivial) rfl (by kernel_rfl) (fun _ _ _ _ h => h) hC rfl ?_; apply Exists.intro; refine ⟨?_, ?_⟩
  · rintro w ⟨r1, r2⟩; go_simp; try with_reducible rfl
  simp only [Act.put, List.setIfInBounds_toArray, List.set_cons_succ, List.set_cons_zero]
  refine Lim.stepR 19 (fun _ => trivial) rfl (by kernel_rfl) (fun _ _ _ _ h => h) hC rfl ?_; apply Exists.intro; refine ⟨?_, ?_⟩
  · rintro w ⟨r1, r2⟩; go_simp; try with_reducible rfl
  simp only [Act.put, List.setIfInBounds_toArray, List.set_cons_succ, List.set_cons_zero]
  refine Lim.stepE 20 (fun _ => trivial) rfl (by kernel_rfl) rfl (fun K hK => ?_)   -- E call
  have hb : Below w36.heap.size w36 w36.drew := (Below.refl _ _).drew
  generalize w36.drew = w37 at hb hC ⊢
  replace Rvr := Lib.hid (RS.on (B := 0) Rvr.out hb)
  replace Rvp := Lib.hid (RS.on (B := 0) Rvp.out hb)
  replace Rvm := Lib.hid (RS.on (B := 0) Rvm.out hb)
  replace HB := Lib.hid (HB.out.trans (hb.mono HB.out.size))
  replace HSP := Lib.hid (And.intro (cell_on hb HSP.out.1) (And.intro (cell_on hb HSP.out.2.1) (And.intro (frozen_on hb HSP.out.1 HSP.out.2.2.1) (frozen_on hb HSP.out.2.1 HSP.out.2.2.2))))
  clear hb
  go_simp
  refine ⟨rfl, (callsIn_wide.2 (span_any _ _ _)).mono ?_⟩
  rintro e w38 ⟨rfl, hb⟩
  replace Rvr := Lib.hid (RS.on (B := 0) Rvr.out hb)
  replace Rvp := Lib.hid (RS.on (B := 0) Rvp.out hb)
  replace Rvm := Lib.hid (RS.on (B := 0) Rvm.out hb)
  replace HB := Lib.hid (HB.out.trans (hb.mono HB.out.size))
  replace HSP := Lib.hid (And.intro (cell_on hb HSP.out.1) (And.intro (cell_on hb HSP.out.2.1) (And.intro (frozen_on hb HSP.out.1 HSP.out.2.2.1) (frozen_on hb HSP.out.2.1 HSP.out.2.2.2))))
  have hC0 : (fun W => W.cell? ⟨w2.heap.size, 0, none⟩ = some (.int .i64 2) ∧ W.cell? ⟨w2.heap.size, 1, none⟩ = some (.int .i64 5)) w38 := ⟨cell_on hb hC.1, cell_on hb hC.2⟩
  clear hC
  have hC := hC0
  clear hC0
  refine hK _ _ hC ?_
  clear hb
  simp only [Act.put, List.setIfInBounds_toArray, List.set_cons_succ, List.set_cons_zero]
  refine Lim.stepR 21 (fun _ => trivial) rfl (by kernel_rfl) (fun _ _ _ _ h => h) hC rfl ?_; apply Exists.intro; refine ⟨?_, ?_⟩
  · rintro w ⟨r1, r2⟩; go_simp; try with_reducible rfl
  simp only [Act.put, List.setIfInBounds_toArray, List.set_cons_succ, List.set_cons_zero]
  refine Lim.stepR 22 (fun _ => trivial) rfl (by kernel_rfl) (fun _ _ _ _ h => h) hC rfl ?_; apply Exists.intro; refine ⟨?_, ?_⟩
  · rintro w ⟨r1, r2⟩; go_simp; try with_reducible rfl
  simp only [Act.put, List.setIfInBounds_toArray, List.set_cons_succ, List.set_cons_zero]
  refine Lim.stepR 23 (fun _ => trivial) rfl (by kernel_rfl) (fun _ _ _ _ h => h) hC rfl ?_; apply Exists.intro; refine ⟨?_, ?_⟩
  · rintro w ⟨r1, r2⟩; go_simp; try with_reducible rfl
  simp only [Act.put, List.setIfInBounds_toArray, List.set_cons_succ, List.set_cons_zero]
  refine Lim.stepR 24 (fun _ => trivial) rfl (by kernel_rfl) (fun _ _ _ _ h => h) hC rfl ?_; apply Exists.intro; refine ⟨?_, ?_⟩
  · rintro w ⟨r1, r2⟩; go_simp; try with_reducible rfl
  simp only [Act.put, List.setIfInBounds_toArray, List.set_cons_succ, List.set_cons_zero]
  refine Lim.stepE 25 (fun _ => trivial) rfl (by kernel_rfl) rfl (fun K hK => ?_)   -- E buildSlice
  go_simp
  have hb : Below w38.heap.size w38 (w38.alloc (.cells #[.int .i64 1, .int .i64 4] 3)) := (Below.refl _ _).alloc (Nat.le_refl _) _
  have hn := rs_new (w := w38) (t := 3) (n := 2) (ints [1, 4]) rfl
  have hC0 : (fun W => W.cell? ⟨w2.heap.size, 0, none⟩ = some (.int .i64 2) ∧ W.cell? ⟨w2.heap.size, 1, none⟩ = some (.int .i64 5)) (w38.alloc (.cells #[.int .i64 1, .int .i64 4] 3)) := ⟨cell_on hb hC.1, cell_on hb hC.2⟩
  refine hK _ _ hC0 ?_
  clear hC
  have hC := hC0
  clear hC0
  generalize hW : (w38.alloc (.cells #[.int .i64 1, .int .i64 4] 3)) = w39 at hb hC ⊢
  have hn : RS w39.heap.size w39 (.slice (some ⟨w38.heap.size, 0, none⟩) 2 2) 2 (ints [1, 4]) := by rw [← hW]; exact hn
  clear hW
  replace Rvr := Lib.hid (RS.on (B := 0) Rvr.out hb)
  replace Rvp := Lib.hid (RS.on (B := 0) Rvp.out hb)
  replace Rvm := Lib.hid (RS.on (B := 0) Rvm.out hb)
  replace HB := Lib.hid (HB.out.trans (hb.mono HB.out.size))
  replace HSP := Lib.hid (And.intro (cell_on hb HSP.out.1) (And.intro (cell_on hb HSP.out.2.1) (And.intro (frozen_on hb HSP.out.1 HSP.out.2.2.1) (frozen_on hb HSP.out.2.1 HSP.out.2.2.2))))
  have HN := Lib.hid hn
  clear hn
  clear hb
  simp only [Act.put, List.setIfInBounds_toArray, List.set_cons_succ, List.set_cons_zero]
  refine Lim.stepE 26 (fun _ => trivial) rfl (by kernel_rfl) rfl (fun K hK => ?_)   -- E call
  go_simp
  refine ⟨rfl, (callsIn_wide.2 (eqi (l1 := [1, 4]) (l2 := [1, 4]) rfl (by decide) Rvr.out HN.out)).mono ?_⟩
  rintro e w40 ⟨rfl, hb⟩
  replace Rvr := Lib.hid (RS.on (B := 0) Rvr.out hb)
  replace Rvp := Lib.hid (RS.on (B := 0) Rvp.out hb)
  replace Rvm := Lib.hid (RS.on (B := 0) Rvm.out hb)
  replace HN := Lib.hid (RS.on (B := 0) HN.out hb)
  replace HB := Lib.hid (HB.out.trans (hb.mono HB.out.size))
  replace HSP := Lib.hid (And.intro (cell_on hb HSP.out.1) (And.intro (cell_on hb HSP.out.2.1) (And.intro (frozen_on hb HSP.out.1 HSP.out.2.2.1) (frozen_on hb HSP.out.2.1 HSP.out.2.2.2))))
  have hC0 : (fun W => W.cell? ⟨w2.heap.size, 0, none⟩ = some (.int .i64 2) ∧ W.cell? ⟨w2.heap.size, 1, none⟩ = some (.int .i64 5)) w40 := ⟨cell_on hb hC.1, cell_on hb hC.2⟩
  clear hC
  have hC := hC0
  clear hC0
  clear HN
  refine hK _ _ hC ?_
  clear hb
  simp only [Act.put, List.setIfInBounds_toArray, List.set_cons_succ, List.set_cons_zero]
  refine Lim.stepR 27 (fun _ => trivial) rfl (by kernel_rfl) (fun _ _ _ _ h => h) hC rfl ?_; apply Exists.intro; refine ⟨?_, ?_⟩
  · rintro w ⟨r1, r2⟩; go_simp; try with_reducible rfl
  simp only [Act.put, List.setIfInBounds_toArray, List.set_cons_succ, List.set_cons_zero]
  refine Lim.stepR 28 (fun _ => trivial) rfl (by kernel_rfl) (fun _ _ _ _ h => h) hC rfl ?_; apply Exists.intro; refine ⟨?_, ?_⟩
  · rintro w ⟨r1, r2⟩; go_simp; try with_reducible rfl
  simp only [Act.put, List.setIfInBounds_toArray, List.set_cons_succ, List.set_cons_zero]
  refine Lim.stepR 29 (fun _ => trivial) rfl (by kernel_rfl) (fun _ _ _ _ h => h) hC rfl ?_; apply Exists.intro; refine ⟨?_, ?_⟩
  · rintro w ⟨r1, r2⟩; go_simp; try with_reducible rfl
  simp only [Act.put, List.setIfInBounds_toArray, List.set_cons_succ, List.set_cons_zero]
  refine Lim.stepR 30 (fun _ => trivial) rfl (by kernel_rfl) (fun _ _ _ _ h => h) hC rfl ?_; apply Exists.intro; refine ⟨?_, ?_⟩
  · rintro w ⟨r1, r2⟩; go_simp; try with_reducible rfl
  simp only [Act.put, List.setIfInBounds_toArray, List.set_cons_succ, List.set_cons_zero]
  refine Lim.stepR 31 (fun _ => trivial) rfl (by kernel_rfl) (fun _ _ _ _ h => h) hC rfl ?_; apply Exists.intro; refine ⟨?_, ?_⟩
  · rintro w ⟨r1, r2⟩; go_simp; try with_reducible rfl
  simp only [Act.put, List.setIfInBounds_toArray, List.set_cons_succ, List.set_cons_zero]
  refine Lim.stepR 32 (fun _ => trivial) rfl (by kernel_rfl) (fun _ _ _ _ h => h) hC rfl ?_; apply Exists.intro; refine ⟨?_, ?_⟩
  · rintro w ⟨r1, r2⟩; go_simp; try with_reducible rfl
  simp only [Act.put, List.setIfInBounds_toArray, List.set_cons_succ, List.set_cons_zero]
  refine Lim.stepR 33 (fun _ => trivial) rfl (by kernel_rfl) (fun _ _ _ _ h => h) hC rfl ?_; apply Exists.intro; refine ⟨?_, ?_⟩
  · rintro w ⟨r1, r2⟩; go_simp; try with_reducible rfl
  simp only [Act.put, List.setIfInBounds_toArray, List.set_cons_succ, List.set_cons_zero]
  refine Lim.stepR 34 (fun _ => trivial) rfl (by kernel_rfl) (fun _ _ _ _ h => h) hC rfl ?_; apply Exists.intro; refine ⟨?_, ?_⟩
  · rintro w ⟨r1, r2⟩; go_simp; try with_reducible rfl
  simp only [Act.put, List.setIfInBounds_toArray, List.set_cons_succ, List.set_cons_zero]
  refine Lim.stepR 35 (fun _ => trivial) rfl (by kernel_rfl) (fun _ _ _ _ h => h) hC rfl ?_; apply Exists.intro; refine ⟨?_, ?_⟩
  · rintro w ⟨r1, r2⟩; go_simp; try with_reducible rfl
  simp only [Act.put, List.setIfInBounds_toArray, List.set_cons_succ, List.set_cons_zero]
  refine Lim.stepE 36 (fun _ => trivial) rfl (by kernel_rfl) rfl (fun K hK => ?_)   -- E buildSlice
  go_simp
  have hb : Below w40.heap.size w40 (w40.alloc (.cells #[.int .i64 (-1), .int .i64 (-1), .int .i64 5, .int .i64 5, .int .i64 (-1), .int .i64 (-1), .int .i64 (-1), .int .i64 (-1), .int .i64 2, .int .i64 6, .int .i64 (-1), .int .i64 (-1)] 54)) := (Below.refl _ _).alloc (Nat.le_refl _) _
  have hn := rs_new (w := w40) (t := 54) (n := 6) (spans [(-1, -1), (5, 5), (-1, -1), (-1, -1), (2, 6), (-1, -1)]) rfl
  have hC0 : (fun W => W.cell? ⟨w2.heap.size, 0, none⟩ = some (.int .i64 2) ∧ W.cell? ⟨w2.heap.size, 1, none⟩ = some (.int .i64 5)) (w40.alloc (.cells #[.int .i64 (-1), .int .i64 (-1), .int .i64 5, .int .i64 5, .int .i64 (-1), .int .i64 (-1), .int .i64 (-1), .int .i64 (-1), .int .i64 2, .int .i64 6, .int .i64 (-1), .int .i64 (-1)] 54)) := ⟨cell_on hb hC.1, cell_on hb hC.2⟩
  refine hK _ _ hC0 ?_
  clear hC
  have hC := hC0
  clear hC0
  generalize hW : (w40.alloc (.cells #[.int .i64 (-1), .int .i64 (-1), .int .i64 5, .int .i64 5, .int .i64 (-1), .int .i64 (-1), .int .i64 (-1), .int .i64 (-1), .int .i64 2, .int .i64 6, .int .i64 (-1), .int .i64 (-1)] 54)) = w41 at hb hC ⊢
  have hn : RS w41.heap.size w41 (.slice (some ⟨w40.heap.size, 0, none⟩) 6 6) 6 (spans [(-1, -1), (5, 5), (-1, -1), (-1, -1), (2, 6), (-1, -1)]) := by rw [← hW]; exact hn
  clear hW
  replace Rvr := Lib.hid (RS.on (B := 0) Rvr.out hb)
  replace Rvp := Lib.hid (RS.on (B := 0) Rvp.out hb)
  replace Rvm := Lib.hid (RS.on (B := 0) Rvm.out hb)
  replace HB := Lib.hid (HB.out.trans (hb.mono HB.out.size))
  replace HSP := Lib.hid (And.intro (cell_on hb HSP.out.1) (And.intro (cell_on hb HSP.out.2.1) (And.intro (frozen_on hb HSP.out.1 HSP.out.2.2.1) (frozen_on hb HSP.out.2.1 HSP.out.2.2.2))))
  have HN := Lib.hid hn
  clear hn
  clear hb
  simp only [Act.put, List.setIfInBounds_toArray, List.set_cons_succ, List.set_cons_zero]
  refine Lim.stepE 37 (fun _ => trivial) rfl (by kernel_rfl) rfl (fun K hK => ?_)   -- E call
  go_simp
  refine ⟨rfl, (callsIn_wide.2 (eqs (l1 := [(-1, -1), (5, 5), (-1, -1), (-1, -1), (2, 6), (-1, -1)]) (l2 := [(-1, -1), (5, 5), (-1, -1), (-1, -1), (2, 6), (-1, -1)]) rfl (by decide) Rvp.out HN.out)).mono ?_⟩
  rintro e w42 ⟨rfl, hb⟩
  replace Rvr := Lib.hid (RS.on (B := 0) Rvr.out hb)
  replace Rvp := Lib.hid (RS.on (B := 0) Rvp.out hb)
  replace Rvm := Lib.hid (RS.on (B := 0) Rvm.out hb)
  replace HN := Lib.hid (RS.on (B := 0) HN.out hb)
  replace HB := Lib.hid (HB.out.trans (hb.mono HB.out.size))
  replace HSP := Lib.hid (And.intro (cell_on hb HSP.out.1) (And.intro (cell_on hb HSP.out.2.1) (And.intro (frozen_on hb HSP.out.1 HSP.out.2.2.1) (frozen_on hb HSP.out.2.1 HSP.out.2.2.2))))
  have hC0 : (fun W => W.cell? ⟨w2.heap.size, 0, none⟩ = some (.int .i64 2) ∧ W.cell? ⟨w2.heap.size, 1, none⟩ = some (.int .i64 5)) w42 := ⟨cell_on hb hC.1, cell_on hb hC.2⟩
  clear hC
  have hC := hC0
  clear hC0
  clear HN
  refine hK _ _ hC ?_
  clear hb
  simp only [Act.put, List.setIfInBounds_toArray, List.set_cons_succ, List.set_cons_zero]
  refine Lim.stepR 38 (fun _ => trivial) rfl (by kernel_rfl) (fun _ _ _ _ h => h) hC rfl ?_; apply Exists.intro; refine ⟨?_, ?_⟩
  · rintro w ⟨r1, r2⟩; go_simp; try with_reducible rfl
  simp only [Act.put, List.setIfInBounds_toArray, List.set_cons_succ, List.set_cons_zero]
  refine Lim.stepR 39 (fun _ => trivial) rfl (by kernel_rfl) (fun _ _ _ _ h => h) hC rfl ?_; apply Exists.intro; refine ⟨?_, ?_⟩
  · rintro w ⟨r1, r2⟩; go_simp; try with_reducible rfl
  simp only [Act.put, List.setIfInBounds_toArray, List.set_cons_succ, List.set_cons_zero]
  refine Lim.stepR 40 (fun _ => trivial) rfl (by kernel_rfl) (fun _ _ _ _ h => h) hC rfl ?_; apply Exists.intro; refine ⟨?_, ?_⟩
  · rintro w ⟨r1, r2⟩; go_simp; try with_reducible rfl
  simp only [Act.put, List.setIfInBounds_toArray, List.set_cons_succ, List.set_cons_zero]
  refine Lim.stepR 41 (fun _ => trivial) rfl (by kernel_rfl) (fun _ _ _ _ h => h) hC rfl ?_; apply Exists.intro; refine ⟨?_, ?_⟩
  · rintro w ⟨r1, r2⟩; go_simp; try with_reducible rfl
  simp only [Act.put, List.setIfInBounds_toArray, List.set_cons_succ, List.set_cons_zero]
  refine Lim.stepR 42 (fun _ => trivial) rfl (by kernel_rfl) (fun _ _ _ _ h => h) hC rfl ?_; apply Exists.intro; refine ⟨?_, ?_⟩
  · rintro w ⟨r1, r2⟩; go_simp; try with_reducible rfl
  simp only [Act.put, List.setIfInBounds_toArray, List.set_cons_succ, List.set_cons_zero]
  refine Lim.stepR 43 (fun _ => trivial) rfl (by kernel_rfl) (fun _ _ _ _ h => h) hC rfl ?_; apply Exists.intro; refine ⟨?_, ?_⟩
  · rintro w ⟨r1, r2⟩; go_simp; try with_reducible rfl
  simp only [Act.put, List.setIfInBounds_toArray, List.set_cons_succ, List.set_cons_zero]
  refine Lim.stepR 44 (fun _ => trivial) rfl (by kernel_rfl) (fun _ _ _ _ h => h) hC rfl ?_; apply Exists.intro; refine ⟨?_, ?_⟩
  · rintro w ⟨r1, r2⟩; go_simp; try with_reducible rfl
  simp only [Act.put, List.setIfInBounds_toArray, List.set_cons_succ, List.set_cons_zero]
  refine Lim.stepR 45 (fun _ => trivial) rfl (by kernel_rfl) (fun _ _ _ _ h => h) hC rfl ?_; apply Exists.intro; refine ⟨?_, ?_⟩
  · rintro w ⟨r1, r2⟩; go_simp; try with_reducible rfl
  simp only [Act.put, List.setIfInBounds_toArray, List.set_cons_succ, List.set_cons_zero]
  refine Lim.stepE 46 (fun _ => trivial) rfl (by kernel_rfl) rfl (fun K hK => ?_)   -- E buildSlice
  go_simp
  have hb : Below w42.heap.size w42 (w42.alloc (.cells #[.int .i64 2] 3)) := (Below.refl _ _).alloc (Nat.le_refl _) _
  have hn := rs_new (w := w42) (t := 3) (n := 1) (ints [2]) rfl
  have hC0 : (fun W => W.cell? ⟨w2.heap.size, 0, none⟩ = some (.int .i64 2) ∧ W.cell? ⟨w2.heap.size, 1, none⟩ = some (.int .i64 5)) (w42.alloc (.cells #[.int .i64 2] 3)) := ⟨cell_on hb hC.1, cell_on hb hC.2⟩
  refine hK _ _ hC0 ?_
  clear hC
  have hC := hC0
  clear hC0
  generalize hW : (w42.alloc (.cells #[.int .i64 2] 3)) = w43 at hb hC ⊢
  have hn : RS w43.heap.size w43 (.slice (some ⟨w42.heap.size, 0, none⟩) 1 1) 1 (ints [2]) := by rw [← hW]; exact hn
  clear hW
  replace Rvr := Lib.hid (RS.on (B := 0) Rvr.out hb)
  replace Rvp := Lib.hid (RS.on (B := 0) Rvp.out hb)
  replace Rvm := Lib.hid (RS.on (B := 0) Rvm.out hb)
  replace HB := Lib.hid (HB.out.trans (hb.mono HB.out.size))
  replace HSP := Lib.hid (And.intro (cell_on hb HSP.out.1) (And.intro (cell_on hb HSP.out.2.1) (And.intro (frozen_on hb HSP.out.1 HSP.out.2.2.1) (frozen_on hb HSP.out.2.1 HSP.out.2.2.2))))
  have HN := Lib.hid hn
  clear hn
  clear hb
  simp only [Act.put, List.setIfInBounds_toArray, List.set_cons_succ, List.set_cons_zero]
  refine Lim.stepE 47 (fun _ => trivial) rfl (by kernel_rfl) rfl (fun K hK => ?_)   -- E call
  go_simp
  refine ⟨rfl, (callsIn_wide.2 (eqi (l1 := [2]) (l2 := [2]) rfl (by decide) Rvm.out HN.out)).mono ?_⟩
  rintro e w44 ⟨rfl, hb⟩
  replace Rvr := Lib.hid (RS.on (B := 0) Rvr.out hb)
  replace Rvp := Lib.hid (RS.on (B := 0) Rvp.out hb)
  replace Rvm := Lib.hid (RS.on (B := 0) Rvm.out hb)
  replace HN := Lib.hid (RS.on (B := 0) HN.out hb)
  replace HB := Lib.hid (HB.out.trans (hb.mono HB.out.size))
  replace HSP := Lib.hid (And.intro (cell_on hb HSP.out.1) (And.intro (cell_on hb HSP.out.2.1) (And.intro (frozen_on hb HSP.out.1 HSP.out.2.2.1) (frozen_on hb HSP.out.2.1 HSP.out.2.2.2))))
  have hC0 : (fun W => W.cell? ⟨w2.heap.size, 0, none⟩ = some (.int .i64 2) ∧ W.cell? ⟨w2.heap.size, 1, none⟩ = some (.int .i64 5)) w44 := ⟨cell_on hb hC.1, cell_on hb hC.2⟩
  clear hC
  have hC := hC0
  clear hC0
  clear HN
  refine hK _ _ hC ?_
  clear hb
  simp only [Act.put, List.setIfInBounds_toArray, List.set_cons_succ, List.set_cons_zero]
  refine Lim.stepR 48 (fun _ => trivial) rfl (by kernel_rfl) (fun _ _ _ _ h => h) hC rfl ?_; apply Exists.intro; refine ⟨?_, ?_⟩
  · rintro w ⟨r1, r2⟩; go_simp; try with_reducible rfl
  simp only [Act.put, List.setIfInBounds_toArray, List.set_cons_succ, List.set_cons_zero]
  refine Lim.stepR 49 (fun _ => trivial) rfl (by kernel_rfl) (fun _ _ _ _ h => h) hC rfl ?_; apply Exists.intro; refine ⟨?_, ?_⟩
  · rintro w ⟨r1, r2⟩; go_simp; try with_reducible rfl
  simp only [Act.put, List.setIfInBounds_toArray, List.set_cons_succ, List.set_cons_zero]
  refine Lim.stepD (by kernel_rfl) ?_
  clear hC
  go_wp2
  go_ret
  exact ⟨rfl, HB.out⟩
end Go.Proofs.Ytdgibmgifgdpbaa
