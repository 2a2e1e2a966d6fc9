/-
  Parts of the proof, in the order in which they build: EvE.
-/
import Derived.Test.YtiacgaplhndlnaaRows
import Derived.Shelf.Abstract
import Derived.WalkSpells
import Derived.WalkLawsBesides
import Derived.Laws.EntriesVeiled
import Derived.Lib.Hide
import Derived.IntWalk
import Derived.BigQuiet
import Derived.Laws.IdiomCopy
import Derived.Laws.MakeOwn
import Derived.Laws.OwnMore
import Derived.Shelf.Slices.Cells
import Derived.Shelf.SlicesE.Clone
import Derived.Test.YtiacgaplhndlnaaF3
import Derived.Test.YtiacgaplhndlnaaF1
import Derived.Test.YtiacgaplhndlnaaF9
import Derived.Test.YtiacgaplhndlnaaF8
set_option linter.unusedVariables false
set_option linter.unusedSimpArgs false
namespace Go.Proofs.Ytiacgaplhndlnaa
open Go.RowKit Go.Shelf
open Lim

theorem sizeInt (w : World) : (Go.sizeOf 3).run Try.prog w = .ok 1 w := Try.sizeOf3 w
theorem ownsRow_zero (w : World) (B : Nat) (e size : Nat) : w.ownsRow B e size (.slice none 0 0) 0 [] := ⟨by simp, .inl ⟨rfl, rfl⟩⟩
theorem ints_one : ∀ (xs : List Int), ∀ u ∈ ints xs, u.oneCell' = true := fun xs u hu => by
  unfold ints at hu
  obtain ⟨x, -, rfl⟩ := List.mem_map.1 hu
  rfl
theorem owns_setCellB {w : World} {base e size : Nat} {v : Value} {n : Nat} {xs : List Value} (h : w.ownsRow base e size v n xs) {p j : Nat} (u : Value) (hp : p < base) : (w.setCell ⟨p, j, none⟩ u).ownsRow base e size v n xs := by
  refine ⟨h.1, ?_⟩
  rcases h.2 with hn | ⟨g, cap, cur, hv, hB, hg, r⟩
  · exact .inl hn
  · exact .inr ⟨g, cap, cur, hv, hB, (Below.heap_setCell w ⟨p, j, none⟩ u g (by show g ≠ p; omega)).trans hg, r⟩
/-- a slice of the first n of a list -/
theorem clone_ints {B : Nat} {w : World} {b off n c : Nat} {xs : List Int} (hn : n ≤ xs.length) (h4 : n ≤ 90000) (hc : ∀ j u, (ints xs)[j]? = some u → w.cell? ⟨b, off + j, none⟩ = some u) (_hB : B ≤ w.heap.size) :
    Calls Try.prog 38 #[.slice (some ⟨b, off, none⟩) n c] w fun e w' => ∃ v', e = .returned v' ∧ w'.ownsRow w.heap.size 3 1 v' n (ints (xs.take n)) ∧ v' ≠ .slice none 0 0 ∧ Below w.heap.size w w' := by
  obtain ⟨i0, hi, hz0, hz1, hz2⟩ := info_parts Try.infoInt
  refine Try.slices_Clone i0 (.int .i64 0) 1 8 hi hz0 hz1 hz2 rfl (by decide) sizeInt b off n c (ints (xs.take n)) w (by unfold ints; simp; omega) (by unfold maxLen; omega) (by omega) (fun j u hj => hc j u ?_) (ints_one _)
  unfold ints at hj ⊢
  rw [List.map_take] at hj
  rw [List.getElem?_take] at hj
  split at hj
  · exact hj
  · cases hj
theorem clone_any_int {B n : Nat} {v : Value} {xs : List Int} {w : World} (hB : B ≤ w.heap.size) (hv : RS B w v n (ints xs)) (hn : n = xs.length) (h4 : n ≤ 90000) :
    Calls Try.prog 38 #[v] w fun e w' => ∃ v', e = .returned v' ∧ w'.ownsRow w.heap.size 3 1 v' n (ints xs) ∧ Below w.heap.size w w' := by
  obtain ⟨a, c, rfl, ha⟩ := hv
  subst hn
  cases a with
  | none =>
    refine (Try.slices_Clone_nil _ _ w).mono ?_
    rintro e w' ⟨rfl, rfl⟩
    have hx : xs = [] := by
      cases xs with
      | nil => rfl
      | cons x xs => obtain ⟨g, o, h, -⟩ := ha (by simp [ints]); cases h
    subst hx
    exact ⟨_, rfl, ownsRow_zero _ _ _ _, Below.refl _ _⟩
  | some ad =>
    by_cases hx : xs = []
    · subst hx
      refine (Try.slices_Clone_int_zero ad c w).mono ?_
      rintro e w' ⟨v', rfl, h1, -, h2⟩
      exact ⟨v', rfl, h1, h2⟩
    · obtain ⟨g, o, h, hg, hc⟩ := ha (by intro h; apply hx; cases xs with
        | nil => rfl
        | cons => simp [ints] at h)
      cases h
      refine (clone_ints (B := B) (xs := xs) (Nat.le_refl _) h4 hc hB).mono ?_
      rintro e w' ⟨v', rfl, h1, -, h2⟩
      rw [List.take_length] at h1
      exact ⟨v', rfl, h1, h2⟩
theorem setCell_offP (w : World) {p i j : Nat} (v : Value) (h : i ≠ j) : (w.setCell ⟨p, i, none⟩ v).cell? ⟨p, j, none⟩ = w.cell? ⟨p, j, none⟩ := World.cell?_setCell_other w _ _ _ (fun e => h (congrArg Addr.off e))
/-- n cells, of which the first m are x -/
structure RpM (w : World) (g n m : Nat) (x : Int) (W : World) : Prop where
  be : Below w.heap.size w W
  ge : w.heap.size ≤ g
  c : ∀ j, j < n → W.cell? ⟨g, j, none⟩ = some (.int .i64 (if j < m then x else 0))
  f : ∀ j, W.frozen? ⟨g, j, none⟩ = false
  ow : ∃ xs, W.ownsRow w.heap.size 3 1 (.slice (some ⟨g, 0, none⟩) n n) n xs
theorem RpM.drew {w : World} {g n m : Nat} {x : Int} {W : World} (h : RpM w g n m x W) : RpM w g n m x W.drew := ⟨h.be.drew, h.ge, h.c, h.f, h.ow⟩
theorem setCells_at : ∀ (vs : List Value) (w : World) (g o j : Nat), (∀ i, i < vs.length → (w.cell? ⟨g, o + i, none⟩).isSome = true) → (w.setCells g o vs).cell? ⟨g, j, none⟩ = if o ≤ j ∧ j < o + vs.length then vs[j - o]? else w.cell? ⟨g, j, none⟩
  | [], w, g, o, j, _ => by rw [if_neg (by simp)]; rfl
  | v :: vs, w, g, o, j, h => by
    have h0 := h 0 (by simp)
    show ((w.setCell ⟨g, o, none⟩ v).setCells g (o + 1) vs).cell? _ = _
    rw [setCells_at vs (w.setCell ⟨g, o, none⟩ v) g (o + 1) j (fun i hi => by
      rw [setCell_offP _ _ (by omega)]
      have := h (i + 1) (by simpa using hi)
      rw [show o + 1 + i = o + (i + 1) by omega]; exact this)]
    by_cases e : j = o
    · subst e
      rw [if_neg (by omega), if_pos (by simp), World.cell?_setCell_same' _ _ _ (by simpa using h0), Nat.sub_self]; rfl
    · rw [setCell_offP _ _ (by omega)]
      by_cases h1 : o + 1 ≤ j ∧ j < o + 1 + vs.length
      · rw [if_pos h1, if_pos (by simp; omega), show j - o = (j - (o + 1)) + 1 by omega]; rfl
      · rw [if_neg h1, if_neg (by simp; omega)]
theorem setCells_frozen : ∀ (vs : List Value) (w : World) (g o : Nat) (p : Addr), (w.setCells g o vs).frozen? p = w.frozen? p
  | [], _, _, _, _ => rfl
  | v :: vs, w, g, o, p => by
    show ((w.setCell ⟨g, o, none⟩ v).setCells g (o + 1) vs).frozen? p = _
    rw [setCells_frozen vs, World.frozen?_setCell]
theorem below_setCells' {B g : Nat} {w0 : World} (hB : B ≤ g) : ∀ (vs : List Value) (o : Nat) (w : World), Below B w0 w → Below B w0 (w.setCells g o vs)
  | [], _, _, h => h
  | v :: vs, o, w, h => below_setCells' hB vs (o + 1) (w.setCell ⟨g, o, none⟩ v) (h.setCell (p := ⟨g, o, none⟩) hB v)
theorem setCells_owned {base e size g n cap : Nat} : ∀ (vs : List Value) (o : Nat) (w : World) (xs : List Value), w.ownsRow base e size (.slice (some ⟨g, 0, none⟩) n cap) n xs → ∃ ys, (w.setCells g o vs).ownsRow base e size (.slice (some ⟨g, 0, none⟩) n cap) n ys
  | [], _, _, xs, h => ⟨xs, h⟩
  | v :: vs, o, w, xs, h => setCells_owned vs (o + 1) (w.setCell ⟨g, o, none⟩ v) _ (h.stored o v).1
theorem RpM.copy {w : World} {g n m k : Nat} {x : Int} {W : World} (h : RpM w g n m x W) (hk : m + k ≤ n) : RpM w g n (m + k) x (W.setCells g m (List.replicate k (.int .i64 x))) := by
  refine ⟨below_setCells' h.ge _ _ _ h.be, h.ge, fun j hj => ?_, fun j => by rw [setCells_frozen]; exact h.f j, let ⟨xs, h1⟩ := h.ow; setCells_owned _ _ _ xs h1⟩
  rw [setCells_at _ _ _ _ _ (fun i hi => by rw [h.c _ (by simp at hi; omega)]; rfl)]
  by_cases e : m ≤ j ∧ j < m + k
  · rw [if_pos (by simpa using e), if_pos (by omega), List.getElem?_replicate_of_lt (by omega)]
  · rw [if_neg (by simpa using e), h.c j hj]
    by_cases e2 : j < m
    · rw [if_pos e2, if_pos (by omega)]
    · rw [if_neg e2, if_neg (by omega)]
theorem made_ints {w : World} {i : TypeInfo} (hi : Try.prog.info? 3 = some i ∧ i.zero = some (.int .i64 0) ∧ i.size = 1 ∧ i.bytes = 8) {n : Nat} (hn : n ≤ 1000) :
    (Instr.makeSlice 23 (.int .i64 (n : Int)) (.int .i64 (n : Int))).run Try.prog w = .ok (.slice (some ⟨w.heap.size, 0, none⟩) n n) (w.alloc (.cells (Array.replicate n (.int .i64 0)) 3)) := by
  have h := run_make (P := Try.prog) w 23 3 i (.int .i64 0) Try.underlying23 hi.1 hi.2.1 .i64 .i64 n n (by omega) (by omega) (by rw [hi.2.2.2]; omega) (by omega)
  rw [h, hi.2.2.1]
  simp only [Int.toNat_natCast, Nat.mul_one]
  have e : madeCells (Value.int .i64 0).cells n = Array.replicate n (Value.int .i64 0) := by
    show madeCells #[Value.int .i64 0] n = _
    rw [← Array.toList_inj, toList_madeCells_one, Array.toList_replicate]
  rw [e]
theorem RpM.owns {w : World} {g n : Nat} {x : Int} {W : World} (h : RpM w g n n x W) : W.ownsRow w.heap.size 3 1 (.slice (some ⟨g, 0, none⟩) n n) n (ints (List.replicate n x)) := by
  obtain ⟨xs, h1⟩ := h.ow
  have hl := h1.1
  have e : xs = ints (List.replicate n x) := by
    refine List.ext_getElem? (fun j => ?_)
    by_cases hj : j < n
    · obtain ⟨u, hu⟩ : ∃ u, xs[j]? = some u := ⟨_, List.getElem?_eq_getElem (by omega)⟩
      have h2 := h1.cells (g := g) rfl j u hu
      rw [Addr.add_lit, Nat.zero_add, h.c j hj, if_pos hj] at h2
      rw [hu, ← h2]
      unfold ints
      rw [List.getElem?_map, List.getElem?_replicate_of_lt hj]; rfl
    · rw [List.getElem?_eq_none (by omega), List.getElem?_eq_none (by unfold ints; simp; omega)]
  rw [← e]; exact h1
theorem RpM.start (w : World) (n : Nat) (hn : n ≤ 1000) (x : Int) : RpM w w.heap.size n 0 x (w.alloc (.cells (Array.replicate n (.int .i64 0)) 3)) := by
  refine ⟨(Below.refl _ w).alloc (Nat.le_refl _) _, Nat.le_refl _, fun j hj => ?_, fun j => World.frozen?_alloc_new .., ⟨List.replicate n (.int .i64 0), by simp, .inr ⟨w.heap.size, n, _, rfl, Nat.le_refl _, heap_alloc_new w _, Nat.le_refl _, by unfold maxLen; omega, by simp, by simp⟩⟩⟩
  rw [World.cell?_alloc_new, Array.getElem?_replicate, if_pos hj, if_neg (by omega)]
set_option maxRecDepth 20000 in
set_option maxHeartbeats 1000000 in
theorem repeat_any {b c n : Nat} {x : Int} {w : World} (hn : n ≤ 100) (h1 : 1 ≤ n) (hc : w.cell? ⟨b, 0, none⟩ = some (.int .i64 x)) :
    Calls Try.prog 80 #[.slice (some ⟨b, 0, none⟩) 1 c, .int .i64 n] w fun e w' => ∃ g, e = .returned (.slice (some ⟨g, 0, none⟩) n n) ∧ RpM w g n n x w' := by
  have HC := Lib.hid hc
  clear hc
  go_enter Try.func80, Try.ntmps80
  have g0 : decide ((n : Int) < 0) = false := by simp
  have HM : Hid (Calls Try.prog 131 #[.int .u64 1, .int .u64 n] w fun e w' => e = .returned (.tuple #[.int .u64 0, .int .u64 n]) ∧ w' = w) := Lib.hid (by
    have h := Try.bits_Mul 1 n (by decide) (by omega) w
    rw [Nat.one_mul, Nat.div_eq_of_lt (by omega), Nat.mod_eq_of_lt (by omega)] at h
    exact h)
  go_wp2_with fail
  refine HM.out.mono ?_
  rintro e w' ⟨rfl, rfl⟩
  have g1 : decide ((9223372036854775807 : Int) < n) = false := by simp; omega
  have g2 : IntKind.i64.wrap (n : Int) = n := IntWalk.i64_in _ (by omega)
  clear HM
  obtain ⟨i0, hi, hz0, hz1, hz2⟩ := info_parts Try.infoInt
  have hmk := made_ints (w := w') (n := n) ⟨hi, hz0, hz1, hz2⟩ (by omega)
  clear hi hz0 hz1 hz2
  go_wp2_with fail
  have HS := Lib.hid (RpM.start w' n (by omega) x)
  have HB : Hid (b < w'.heap.size ∧ (w'.alloc (.cells (Array.replicate n (.int .i64 0)) 3)).cell? ⟨b, 0, none⟩ = some (.int .i64 x)) := Lib.hid ⟨World.block_lt_of_cell? _ _ HC.out, cell_on ((Below.refl _ w').alloc (Nat.le_refl _) _) HC.out⟩
  obtain ⟨g, hg⟩ : ∃ g, g = w'.heap.size := ⟨_, rfl⟩
  rw [← hg] at HS HB ⊢
  generalize w'.alloc (.cells (Array.replicate n (.int .i64 0)) 3) = w1 at HS HB ⊢
  clear hg hmk
  have hinfo : (Try.prog.info? 3).map (·.size) = some 1 := by kernel_rfl
  rw [run_copy_cells w1 23 23 _ 3 g 0 n n ⟨b, 0, none⟩ 1 c [.int .i64 x] Try.underlying23 hinfo (by simp [Nat.min_def]; omega) (fun j v hj => by cases j with
    | zero => simp at hj; subst hj; exact HB.out.2
    | succ j => simp at hj) (fun j hj => by rw [HS.out.c _ (by simp at hj; omega)]; rfl) (fun j hj => HS.out.f _) (fun v hv => by simp at hv; subst hv; rfl)]
  have HS1 : Hid (RpM w' g n 1 x (w1.setCells g 0 [.int .i64 x])) := Lib.hid (by have h := HS.out.copy (k := 1) (by omega); simpa using h)
  generalize w1.setCells g 0 [.int .i64 x] = w2 at HS1 ⊢
  clear HS HB
  go_wp2_with fail
  go_loopw [8] (fun v wr => ∃ m : Nat, 1 ≤ m ∧ m ≤ n ∧ v = .int .i64 m ∧ Hid (RpM w' g n m x wr)) (fun v _ => n - (intOf v).toNat)
  case atStart => exact ⟨1, Nat.le_refl _, h1, by go_num, HS1⟩
  case round =>
    clear HS1
    obtain ⟨m, hm1, hmn, rfl, hR⟩ := hrel
    by_cases hlt : m < n
    · have g3 : decide ((m : Int) < n) = true := decide_eq_true (by omega)
      have g4 : ¬ n = m := by omega
      go_wp2_with fail
      have hC : True := trivial
      obtain ⟨k, hk⟩ : ∃ k, k = min m (n - m) := ⟨_, rfl⟩
      have hk1 : m + k ≤ n := by omega
      have hk2 : k ≤ m := by omega
      have hk3 : 1 ≤ k := by omega
      have HRd := Lib.hid hR.out.drew
      have HCP : Hid ((Builtin.copy_ #[23, 23] 3 #[.slice (some ⟨g, m, none⟩) (n - m) (n - m), .slice (some ⟨g, 0, none⟩) m n]).run Try.prog wr.drew = .ok (.int .i64 k) (wr.drew.setCells g m (List.replicate k (.int .i64 x)))) := Lib.hid (by
        have h := run_copy_cells wr.drew 23 23 3 3 g m (n - m) (n - m) ⟨g, 0, none⟩ m n (List.replicate k (.int .i64 x)) Try.underlying23 hinfo (by rw [List.length_replicate]; exact hk) (fun j v hj => by
          obtain ⟨hj1, hj2⟩ := List.getElem?_eq_some_iff.1 hj
          have h5 := HRd.out.c j (by simp at hj1; omega)
          rw [if_pos (by simp at hj1; omega)] at h5
          simp at hj2
          rw [← hj2]
          rw [Addr.add_lit, Nat.zero_add]; exact h5) (fun j hj => by rw [HRd.out.c _ (by simp at hj; omega)]; rfl) (fun j hj => HRd.out.f _) (fun v hv => by rw [List.mem_replicate] at hv; rw [hv.2]; rfl)
        rw [h]
        simp [goInt])
      have hwk : IntKind.i64.wrap ((m : Int) + k) = ((m + k : Nat) : Int) := by rw [IntWalk.i64_in _ (by omega)]; omega
      have HS2 := Lib.hid (HRd.out.copy hk1)
      have HKK := Lib.hid (And.intro hk1 hk3)
      clear hk hk1 hk2 hk3 HRd
      refine Lim.regC' (fun _ => True) [] #[false, false, false, false, false, false, false, false, false, false] (by kernel_rfl) rfl ?_
      refine Lim.stepR 0 (fun _ => trivial) rfl (by kernel_rfl) (fun _ _ _ _ h => h) hC rfl ?_; apply Exists.intro; refine ⟨?_, ?_⟩
      · rintro w -; go_simp; try with_reducible rfl
      simp only [Act.put, List.setIfInBounds_toArray, List.set_cons_succ, List.set_cons_zero]
      refine Lim.stepR 1 (fun _ => trivial) rfl (by kernel_rfl) (fun _ _ _ _ h => h) hC rfl ?_; apply Exists.intro; refine ⟨?_, ?_⟩
      · rintro w -; go_simp; try with_reducible rfl
      simp only [Act.put, List.setIfInBounds_toArray, List.set_cons_succ, List.set_cons_zero]
      refine Lim.stepR 2 (fun _ => trivial) rfl (by kernel_rfl) (fun _ _ _ _ h => h) hC rfl ?_; apply Exists.intro; refine ⟨?_, ?_⟩
      · rintro w -; go_simp; try with_reducible rfl
      simp only [Act.put, List.setIfInBounds_toArray, List.set_cons_succ, List.set_cons_zero]
      refine Lim.stepR 3 (fun _ => trivial) rfl (by kernel_rfl) (fun _ _ _ _ h => h) hC rfl ?_; apply Exists.intro; refine ⟨?_, ?_⟩
      · rintro w -; go_simp; try with_reducible rfl
      simp only [Act.put, List.setIfInBounds_toArray, List.set_cons_succ, List.set_cons_zero]
      refine Lim.stepR 4 (fun _ => trivial) rfl (by kernel_rfl) (fun _ _ _ _ h => h) hC rfl ?_; apply Exists.intro; refine ⟨?_, ?_⟩
      · rintro w -; go_simp; try with_reducible rfl
      simp only [Act.put, List.setIfInBounds_toArray, List.set_cons_succ, List.set_cons_zero]
      refine Lim.stepR 5 (fun _ => trivial) rfl (by kernel_rfl) (fun _ _ _ _ h => h) hC rfl ?_; apply Exists.intro; refine ⟨?_, ?_⟩
      · rintro w -; go_simp; try with_reducible rfl
      simp only [Act.put, List.setIfInBounds_toArray, List.set_cons_succ, List.set_cons_zero]
      refine Lim.stepR 6 (fun _ => trivial) rfl (by kernel_rfl) (fun _ _ _ _ h => h) hC rfl ?_; apply Exists.intro; refine ⟨?_, ?_⟩
      · rintro w -; go_simp; try with_reducible rfl
      simp only [Act.put, List.setIfInBounds_toArray, List.set_cons_succ, List.set_cons_zero]
      refine Lim.stepE 7 (fun _ => trivial) rfl (by kernel_rfl) rfl (fun K hK => ?_)   -- E call
      go_simp
      rw [HCP.out]
      simp only [Result.andThen, Oper.uponIn]
      refine hK _ _ trivial ?_
      generalize wr.drew.setCells g m (List.replicate k (.int .i64 x)) = w9 at HS2 ⊢
      clear HCP
      simp only [Act.put, List.setIfInBounds_toArray, List.set_cons_succ, List.set_cons_zero]
      refine Lim.stepR 8 (fun _ => trivial) rfl (by kernel_rfl) (fun _ _ _ _ h => h) hC rfl ?_; apply Exists.intro; refine ⟨?_, ?_⟩
      · rintro w -; go_simp; try with_reducible rfl
      simp only [Act.put, List.setIfInBounds_toArray, List.set_cons_succ, List.set_cons_zero]
      refine Lim.stepR 9 (fun _ => trivial) rfl (by kernel_rfl) (fun _ _ _ _ h => h) hC rfl ?_; apply Exists.intro; refine ⟨?_, ?_⟩
      · rintro w -; go_simp; try with_reducible rfl
      simp only [Act.put, List.setIfInBounds_toArray, List.set_cons_succ, List.set_cons_zero]
      refine Lim.stepD (by kernel_rfl) ?_
      go_wp2
      go_roundw
      case rel => exact ⟨m + k, by omega, HKK.out.1, by go_num, HS2⟩
      case measure => have := HKK.out; simp [intOf]; omega
    · obtain rfl : m = n := by omega
      go_wp2
      go_ret
      exact ⟨g, rfl, hR.out⟩
end Go.Proofs.Ytiacgaplhndlnaa
