/-
  Parts of the proof, in the order in which they build: Sides, SidesFn, Parts, ListFn, Ridge.
-/
import Derived.Test.YtdgibmgifgdpbaaG13
import Derived.Test.YtdgibmgifgdpbaaG8
import Derived.Test.YtdgibmgifgdpbaaG12
import Derived.Test.YtdgibmgifgdpbaaG9
set_option linter.unusedVariables false
set_option linter.unusedSimpArgs false
/-
  The side of each cell: the contract of ridge's method sides.
-/
namespace Go.Proofs.Ytdgibmgifgdpbaa
open Go.RowKit Go.Shelf
open Lim

/-- there is a pass function: the least heights -/
theorem least_nat (P : Nat → Prop) : ∀ n, P n → ∃ m, P m ∧ ∀ k, P k → m ≤ k := by
  intro n
  induction n using Nat.strongRecOn with
  | _ n ih =>
    intro hn
    by_cases h : ∃ k, k < n ∧ P k
    · obtain ⟨k, hk, hp⟩ := h
      exact ih k hk hp
    · exact ⟨n, hn, fun k hk => by
        rcases Nat.lt_or_ge k n with h2 | h2
        · exact absurd ⟨k, h2, hk⟩ h
        · exact h2⟩
theorem IsPass.ex {g : Gd} {t : Nat → Int} {s : Int} (ht : ∀ c, land g c → 0 ≤ t c) : ∃ p, IsPass g t s p := by
  have key : ∀ c, ∃ v : Int, v ≤ 10001 ∧ (v < 10001 → R g t s v c) ∧ ∀ h, R g t s h c → v ≤ h := by
    intro c
    by_cases h : ∃ n : Nat, R g t s n c ∧ n ≤ 10000
    · obtain ⟨n, h1, h2⟩ := h
      obtain ⟨m, hm, hl⟩ := least_nat (fun n => R g t s n c) n h1
      have := hl n h1
      refine ⟨m, by omega, fun _ => hm, fun x hx => ?_⟩
      have h3 := Re.in_A hx
      have h4 := ht c h3.1
      have h5 := h3.2
      obtain ⟨y, rfl⟩ : ∃ y : Nat, x = y := ⟨x.toNat, by omega⟩
      have := hl y hx
      omega
    · refine ⟨10001, by omega, fun h => by omega, fun x hx => ?_⟩
      have h3 := Re.in_A hx
      have h4 := ht c h3.1
      have h5 := h3.2
      obtain ⟨y, rfl⟩ : ∃ y : Nat, x = y := ⟨x.toNat, by omega⟩
      rcases Int.lt_or_le y 10001 with h6 | h6
      · exact absurd ⟨y, hx, by omega⟩ h
      · exact h6
  exact ⟨fun c => (key c).choose, fun c _ => (key c).choose_spec.1, fun c _ => (key c).choose_spec.2.1, fun c _ => (key c).choose_spec.2.2⟩

/-- the side of a cell as sides reckons it -/
def sideOf (ss : List Int) (f1 f2 : Nat → Bool) (a b c d : Nat → Int) (i : Nat) : Bool × Bool × Bool :=
  if ss.getD i 0 = 0 then (f1 i, f2 i, !(a i == 10001) && (!(c i == 10001) && (decide (a i ≤ d i) && decide (c i ≤ b i)))) else (ss.getD i 0 == 1, ss.getD i 0 == 2, false)
def sideCells (l : List (Bool × Bool × Bool)) : List Value := l.flatMap fun s => [.bool s.1, .bool s.2.1, .bool s.2.2]
theorem sideCells_snoc (l : List (Bool × Bool × Bool)) (s : Bool × Bool × Bool) : sideCells (l ++ [s]) = sideCells l ++ [.bool s.1, .bool s.2.1, .bool s.2.2] := by simp [sideCells]
theorem sideCells_length (l : List (Bool × Bool × Bool)) : (sideCells l).length = l.length * 3 := by
  induction l with
  | nil => rfl
  | cons s l ih => simp [sideCells] at ih ⊢; omega
/-- what sides answers -/
def SidesG (g : Gd) (l : List (Bool × Bool × Bool)) : Prop :=
  ∃ f1 f2 a b c d, LowAns g 1 2 f1 ∧ LowAns g 2 1 f2 ∧ IsPass g (lowT g) 1 a ∧ IsPass g (highT g) 1 b ∧ IsPass g (lowT g) 2 c ∧ IsPass g (highT g) 2 d ∧ l = (List.range g.n).map (sideOf g.ss f1 f2 a b c d)

theorem infoSide : (Try.prog.info? 41).map (fun i => (i.zero, i.size, i.bytes)) = some (some (.agg #[.bool false, .bool false, .bool false]), 3, 3) := by kernel_rfl
theorem cell_three_new (w : World) {n : Nat} (hn : w.heap.size = n) (x y z : Value) (t : TypeId) : ∀ j u, [x, y, z][j]? = some u → (w.alloc (.cells #[x, y, z] t)).cell? ((⟨n, 0, none⟩ : Addr).add j) = some u := by
  subst hn
  intro j u hj
  rw [Addr.add_mid, Nat.zero_add, World.cell?_alloc_new]
  simpa using hj

theorem run_storeBls {P : Program} (w : World) (b : Nat) (o : Nat → Bool) (ht : w.there b 0 100) : (storeCells ⟨b, 0, none⟩ (bls o)).run P w = .ok () (w.setCells b 0 (bls o)) := by
  have := run_storeCells_cells (P := P) b 0 (bls o) 0 w (fun j hj => by simpa using (ht j (by simpa [bls] using hj)).1) (fun j hj => by simpa using (ht j (by simpa [bls] using hj)).2)
    (fun v hv => (Array.all_eq_true_iff_forall_mem.1 (bls_one o)) v (by simpa using hv))
  simpa using this
theorem bls_cell {w : World} {b : Nat} {o : Nat → Bool} (h : w.rangeAt b 0 (bls o)) {k : Nat} (hk : k < 100) : w.cell? ⟨b, k, none⟩ = some (.bool (o k)) := by
  have := h k (.bool (o k)) (bls_at o hk)
  rwa [Nat.zero_add] at this
theorem zeroBools_size : Try.zeroCells141.size = 100 := by rw [zeroBools]; rfl
theorem two_bools {P : Program} (w : World) (a b : Nat → Bool) : ∃ W1 W2 : World,
    (storeCells ⟨w.heap.size, 0, none⟩ (bls a)).run P ((w.alloc (.cells Try.zeroCells141 141)).alloc (.cells Try.zeroCells141 141)) = .ok () W1 ∧
    (storeCells ⟨w.heap.size + 1, 0, none⟩ (bls b)).run P W1 = .ok () W2 ∧ W2.rangeAt w.heap.size 0 (bls a) ∧ W2.rangeAt (w.heap.size + 1) 0 (bls b) ∧ Below w.heap.size w W2 := by
  have t1 : ((w.alloc (.cells Try.zeroCells141 141)).alloc (.cells Try.zeroCells141 141)).there w.heap.size 0 100 := World.there_alloc (there_new w _ _ 100 (by rw [zeroBools_size]; exact Nat.le_refl _)) _
  have t2 : ((w.alloc (.cells Try.zeroCells141 141)).alloc (.cells Try.zeroCells141 141)).there (w.heap.size + 1) 0 100 := by
    have := there_new (w.alloc (.cells Try.zeroCells141 141)) Try.zeroCells141 141 100 (by rw [zeroBools_size]; exact Nat.le_refl _)
    simpa using this
  have t3 := World.there_setCells t2 w.heap.size 0 (bls a)
  refine ⟨_, _, run_storeBls _ _ _ t1, run_storeBls _ _ _ t3, ?_, ?_, ?_⟩
  · exact World.rangeAt_setCells_apart (World.rangeAt_setCells_same _ _ _ _ (by rw [bls_length]; exact t1)) _ _ _ (.inl (by omega))
  · exact World.rangeAt_setCells_same _ _ _ _ (by rw [bls_length]; exact t3)
  · exact below_setCells (by omega) _ _ _ (below_setCells (Nat.le_refl _) _ _ _ (((Below.refl _ w).alloc (Nat.le_refl _) _).alloc (by simp) _))
theorem grown_of_below {w w' : World} (h : Below w.heap.size w w') : w.grownBy w' none := ⟨h.os, h.tape, h.output, h.size, fun k hk _ => h.block k hk⟩
theorem four_levels {P : Program} (w : World) (a b c d : Nat → Int) : ∃ W1 W2 W3 W4 : World,
    (storeCells ⟨w.heap.size, 0, none⟩ (lev a)).run P ((((w.alloc (.cells Try.zeroCells113 113)).alloc (.cells Try.zeroCells113 113)).alloc (.cells Try.zeroCells113 113)).alloc (.cells Try.zeroCells113 113)) = .ok () W1 ∧
    (storeCells ⟨w.heap.size + 1, 0, none⟩ (lev b)).run P W1 = .ok () W2 ∧ (storeCells ⟨w.heap.size + 1 + 1, 0, none⟩ (lev c)).run P W2 = .ok () W3 ∧ (storeCells ⟨w.heap.size + 1 + 1 + 1, 0, none⟩ (lev d)).run P W3 = .ok () W4 ∧
    W4.rangeAt w.heap.size 0 (lev a) ∧ W4.rangeAt (w.heap.size + 1) 0 (lev b) ∧ W4.rangeAt (w.heap.size + 1 + 1) 0 (lev c) ∧ W4.rangeAt (w.heap.size + 1 + 1 + 1) 0 (lev d) ∧ Below w.heap.size w W4 := by
  have tn : ∀ (w : World) (n : Nat), w.heap.size = n → (w.alloc (.cells Try.zeroCells113 113)).there n 0 100 := by rintro w _ rfl; exact there_new w _ _ 100 (by rw [zeroLevel_size]; exact Nat.le_refl _)
  have t1 := World.there_alloc (World.there_alloc (World.there_alloc (tn w _ rfl) (.cells Try.zeroCells113 113)) (.cells Try.zeroCells113 113)) (.cells Try.zeroCells113 113)
  have t2 := World.there_alloc (World.there_alloc (tn (w.alloc (.cells Try.zeroCells113 113)) (w.heap.size + 1) (by simp)) (.cells Try.zeroCells113 113)) (.cells Try.zeroCells113 113)
  have t3 := World.there_alloc (tn ((w.alloc (.cells Try.zeroCells113 113)).alloc (.cells Try.zeroCells113 113)) (w.heap.size + 1 + 1) (by simp)) (.cells Try.zeroCells113 113)
  have t4 := tn (((w.alloc (.cells Try.zeroCells113 113)).alloc (.cells Try.zeroCells113 113)).alloc (.cells Try.zeroCells113 113)) (w.heap.size + 1 + 1 + 1) (by simp)
  have u2 := World.there_setCells t2 w.heap.size 0 (lev a)
  have u3 := World.there_setCells (World.there_setCells t3 w.heap.size 0 (lev a)) (w.heap.size + 1) 0 (lev b)
  have u4 := World.there_setCells (World.there_setCells (World.there_setCells t4 w.heap.size 0 (lev a)) (w.heap.size + 1) 0 (lev b)) (w.heap.size + 1 + 1) 0 (lev c)
  refine ⟨_, _, _, _, run_storeLev _ _ _ t1, run_storeLev _ _ _ u2, run_storeLev _ _ _ u3, run_storeLev _ _ _ u4, ?_, ?_, ?_, ?_, ?_⟩
  · exact World.rangeAt_setCells_apart (World.rangeAt_setCells_apart (World.rangeAt_setCells_apart (World.rangeAt_setCells_same _ _ _ _ (by rw [lev_length]; exact t1)) _ _ _ (.inl (by omega))) _ _ _ (.inl (by omega))) _ _ _ (.inl (by omega))
  · exact World.rangeAt_setCells_apart (World.rangeAt_setCells_apart (World.rangeAt_setCells_same _ _ _ _ (by rw [lev_length]; exact u2)) _ _ _ (.inl (by omega))) _ _ _ (.inl (by omega))
  · exact World.rangeAt_setCells_apart (World.rangeAt_setCells_same _ _ _ _ (by rw [lev_length]; exact u3)) _ _ _ (.inl (by omega))
  · exact World.rangeAt_setCells_same _ _ _ _ (by rw [lev_length]; exact u4)
  · exact below_setCells (by omega) _ _ _ (below_setCells (by omega) _ _ _ (below_setCells (by omega) _ _ _ (below_setCells (Nat.le_refl _) _ _ _ (((((Below.refl _ w).alloc (Nat.le_refl _) _).alloc (by simp) _).alloc (by simp; omega) _).alloc (by simp; omega) _))))

set_option maxRecDepth 100000 in
set_option maxHeartbeats 4000000 in
theorem sides_any {B b : Nat} {g : Gd} {w : World} {M : Nat → Bool} (hg : g.Ok) (hbs : badSpan g.hs = false) (hB : B ≤ b) (hw : WorkIn B w b g) (hm : MetAt w b M) :
    Calls Try.prog 58 #[.pointer (some ⟨b, 0, none⟩)] w fun e w' => ∃ v l, e = .returned v ∧ SidesG g l ∧ w'.ownsRow w.heap.size 41 3 v l.length (sideCells l) ∧ w.grownBy w' (some b) := by
  have hbw := hw.lt
  have hn : g.ss.length ≤ 100 := hg.n1
  have HHN : Hid (g.hs.length = g.ss.length) := Lib.hid hg.hn
  have HBS := Lib.hid hbs
  have hEX : ∀ s, ∃ p, IsPass g (highT g) s p := fun s => IsPass.ex (fun c hc => by
    rw [highT_eq]
    have := goodSpan hbs (c := c) (by have h1 := hc.1; have h2 : g.hs.length = g.ss.length := hg.hn; have h3 : g.n = g.ss.length := rfl; omega)
    omega)
  obtain ⟨aw2, hA2⟩ := hEX 2
  obtain ⟨aw1, hA1⟩ := hEX 1
  have C1 := Lib.hid (lower_any (sea := 1) hg hbs hB hw hm aw2 hA2)
  have HA1 := Lib.hid hA1
  clear hEX hA1 hA2 hw hm hbs
  go_enter Try.func58, Try.ntmps58
  go_wp2_with fail
  refine C1.out.mono ?_
  clear C1
  rintro e w1 ⟨f1, rfl, hf1, hg1, hw1, M1, hm1⟩
  have C2 := Lib.hid (lower_any (sea := 2) hg HBS.out hB hw1 hm1 aw1 HA1.out)
  have HF1 := Lib.hid (And.intro hf1 hg1)
  clear hf1 hg1 hw1 hm1
  go_wp2_with fail
  refine C2.out.mono ?_
  clear C2
  rintro e w2 ⟨f2, rfl, hf2, hg2, hw2, M2, hm2⟩
  have HWK := Lib.hid hw2
  have HF2 := Lib.hid (And.intro hf2 (grown_but HF1.out.2 hg2 (fun r e => .inl e.symm)))
  have hlt2 := hw2.lt
  clear hf2 hg2 hw2 hm2
  go_wp2_with fail
  obtain ⟨X1, w3, e1, e2, k1, k2, hb3⟩ := two_bools (P := Try.prog) w2 f1 f2
  rw [e1]
  have E2 := Lib.hid e2
  clear e1 e2
  simp only [Result.andThen_ok, Oper.upon]
  go_wp2_with fail
  rw [E2.out]
  simp only [Result.andThen_ok, Oper.upon]
  clear E2
  have HK3 := Lib.hid (And.intro k1 k2)
  have HB3 := Lib.hid hb3
  have s3 := hb3.size
  clear k1 k2 hb3
  go_wp2_with fail
  refine (low_any _).mono ?_
  rintro e w4 ⟨rfl, hb4⟩
  have H4 := HB3.out.trans (hb4.mono s3)
  have hs4 := H4.size
  have HH := Lib.hid (heights_low hg (by omega) ((HWK.out.below H4 (by omega)).at (B' := w4.heap.size) (by omega) (by omega)))
  have R4 := Lib.hid (And.intro (range_below HK3.out.1 hb4) (range_below HK3.out.2 hb4))
  clear hb4 HK3 HB3 s3
  go_wp2_with fail
  refine HH.out.mono ?_
  clear HH
  rintro e w5 ⟨v5, rfl, ho5, hb5⟩
  have H5 := H4.trans (hb5.mono hs4)
  have hs5 := H5.size
  have V5 := Lib.hid (RS.of_owns' ho5 (by simp))
  have R5 := Lib.hid (And.intro (range_below R4.out.1 hb5) (range_below R4.out.2 hb5))
  clear hb5 R4 hs4 H4 ho5
  go_wp2_with fail
  refine (high_any _).mono ?_
  rintro e w6 ⟨rfl, hb6⟩
  have H6 := H5.trans (hb6.mono hs5)
  have hs6 := H6.size
  have HH := Lib.hid (heights_high hg (by omega) ((HWK.out.below H6 (by omega)).at (B' := w6.heap.size) (by omega) (by omega)))
  have V6 := Lib.hid ((V5.out.below hb6).mono hb6.size)
  have R6 := Lib.hid (And.intro (range_below R5.out.1 hb6) (range_below R5.out.2 hb6))
  clear hb6 R5 V5 hs5 H5
  go_wp2_with fail
  refine HH.out.mono ?_
  clear HH
  rintro e w7 ⟨v7, rfl, ho7, hb7⟩
  have H7 := H6.trans (hb7.mono hs6)
  have hs7 := H7.size
  have V7 := Lib.hid (And.intro ((V6.out.below hb7).mono hb7.size) (RS.of_owns' ho7 (by simp)))
  have R7 := Lib.hid (And.intro (range_below R6.out.1 hb7) (range_below R6.out.2 hb7))
  clear hb7 R6 V6 hs6 H6 ho7
  have HS := Lib.hid (passes_any (B := w7.heap.size) (s := 1) hg (Nat.le_refl _) ((HWK.out.below H7 (by omega)).at (B' := w7.heap.size) (by omega) (by omega)) (by simpa using HHN.out) (low_range HBS.out) V7.out.1)
  go_wp2_with fail
  refine HS.out.mono ?_
  clear HS
  rintro e w8 ⟨a, rfl, ha, hb8⟩
  have H8 := H7.trans (hb8.mono hs7)
  have hs8 := H8.size
  have HPa := Lib.hid ha
  have V8 := Lib.hid (And.intro ((V7.out.1.below hb8).mono hb8.size) ((V7.out.2.below hb8).mono hb8.size))
  have R8 := Lib.hid (And.intro (range_below R7.out.1 hb8) (range_below R7.out.2 hb8))
  clear hb8 R7 V7 hs7 H7 ha
  have HS := Lib.hid (passes_any (B := w8.heap.size) (s := 1) hg (Nat.le_refl _) ((HWK.out.below H8 (by omega)).at (B' := w8.heap.size) (by omega) (by omega)) (by simpa using HHN.out) (high_range HBS.out) V8.out.2)
  go_wp2_with fail
  refine HS.out.mono ?_
  clear HS
  rintro e w9 ⟨b', rfl, hb', hb9⟩
  have H9 := H8.trans (hb9.mono hs8)
  have hs9 := H9.size
  have HPb := Lib.hid hb'
  have V9 := Lib.hid (And.intro ((V8.out.1.below hb9).mono hb9.size) ((V8.out.2.below hb9).mono hb9.size))
  have R9 := Lib.hid (And.intro (range_below R8.out.1 hb9) (range_below R8.out.2 hb9))
  clear hb9 R8 V8 hs8 H8 hb'
  have HS := Lib.hid (passes_any (B := w9.heap.size) (s := 2) hg (Nat.le_refl _) ((HWK.out.below H9 (by omega)).at (B' := w9.heap.size) (by omega) (by omega)) (by simpa using HHN.out) (low_range HBS.out) V9.out.1)
  go_wp2_with fail
  refine HS.out.mono ?_
  clear HS
  rintro e w10 ⟨c, rfl, hc, hb10⟩
  have H10 := H9.trans (hb10.mono hs9)
  have hs10 := H10.size
  have HPc := Lib.hid hc
  have V10 := Lib.hid (And.intro ((V9.out.1.below hb10).mono hb10.size) ((V9.out.2.below hb10).mono hb10.size))
  have R10 := Lib.hid (And.intro (range_below R9.out.1 hb10) (range_below R9.out.2 hb10))
  clear hb10 R9 V9 hs9 H9 hc
  have HS := Lib.hid (passes_any (B := w10.heap.size) (s := 2) hg (Nat.le_refl _) ((HWK.out.below H10 (by omega)).at (B' := w10.heap.size) (by omega) (by omega)) (by simpa using HHN.out) (high_range HBS.out) V10.out.2)
  go_wp2_with fail
  refine HS.out.mono ?_
  clear HS
  rintro e w11 ⟨d, rfl, hd, hb11⟩
  have H11 := H10.trans (hb11.mono hs10)
  have hs11 := H11.size
  have HPd := Lib.hid hd
  have V11 := Lib.hid (And.intro ((V10.out.1.below hb11).mono hb11.size) ((V10.out.2.below hb11).mono hb11.size))
  have R11 := Lib.hid (And.intro (range_below R10.out.1 hb11) (range_below R10.out.2 hb11))
  clear hb11 R10 V10 hs10 H10 hd
  go_wp2_with fail
  obtain ⟨X1, X2, X3, w12, e1, e2, e3, e4, k1, k2, k3, k4, hb12⟩ := four_levels (P := Try.prog) w11 a b' c d
  rw [e1]
  have E2 := Lib.hid (And.intro e2 (And.intro e3 e4))
  clear e1 e2 e3 e4
  simp only [Result.andThen_ok, Oper.upon]
  go_wp2_with fail
  rw [E2.out.1]
  simp only [Result.andThen_ok, Oper.upon]
  go_wp2_with fail
  rw [E2.out.2.1]
  simp only [Result.andThen_ok, Oper.upon]
  go_wp2_with fail
  rw [E2.out.2.2]
  simp only [Result.andThen_ok, Oper.upon]
  clear E2
  have H12 := H11.trans (hb12.mono hs11)
  have hs12 := H12.size
  have R12 := Lib.hid (And.intro (range_below R11.out.1 hb12) (And.intro (range_below R11.out.2 hb12) (And.intro k1 (And.intro k2 (And.intro k3 k4)))))
  have hw12 := HWK.out.below H12 (by omega)
  obtain ⟨sv, q2, sa, scap, rfl, hsa⟩ := hw12.c2
  have HSA := Lib.hid hsa
  have HH12 := Lib.hid H12
  have hq12 := hb12.size
  clear k1 k2 k3 k4 hb12 R11 V11 H11 H12 hw12 hsa
  go_wp2_with fail
  obtain ⟨i0, hi, hz0, hz1, hz2⟩ := info_parts infoSide
  have HI := Lib.hid (And.intro hi (And.intro hz0 (And.intro hz1 hz2)))
  clear hi hz0 hz1 hz2 q2
  go_loopw [11, 43] (fun v i wr => ∃ k : Nat, k ≤ g.ss.length ∧ i = .int .i64 k ∧ wr.ownsRow w12.heap.size 41 3 v k (sideCells ((List.range k).map (sideOf g.ss f1 f2 a b' c d))) ∧ Below w12.heap.size w12 wr) (fun _ i _ => g.ss.length - (intOf i).toNat)
  case atStart => exact ⟨0, Nat.zero_le _, rfl, World.ownsRow_nil _ _ _ _, Below.refl _ _⟩
  case round =>
    obtain ⟨k, hk, rfl, hown, hbr⟩ := hrel
    have hsr := hbr.size
    by_cases hlt : k < g.ss.length
    · obtain ⟨sb, soff, rfl, hsb, hsc⟩ := HSA.out (ints_ne (by omega))
      obtain ⟨z, hz⟩ : ∃ z, z = g.ss.getD k 0 := ⟨_, rfl⟩
      obtain ⟨x1, hx1⟩ : ∃ x1, x1 = a k := ⟨_, rfl⟩
      obtain ⟨x2, hx2⟩ : ∃ x2, x2 = b' k := ⟨_, rfl⟩
      obtain ⟨x3, hx3⟩ : ∃ x3, x3 = c k := ⟨_, rfl⟩
      obtain ⟨x4, hx4⟩ : ∃ x4, x4 = d k := ⟨_, rfl⟩
      obtain ⟨y1, hy1⟩ : ∃ y1, y1 = f1 k := ⟨_, rfl⟩
      obtain ⟨y2, hy2⟩ : ∃ y2, y2 = f2 k := ⟨_, rfl⟩
      have q0 : wr.cell? ⟨sb, soff + k, none⟩ = some (.int .i64 z) := by rw [hz]; exact cell_below hbr (hsc k _ (ints_at' _ _ hlt)) (by dsimp only; omega)
      have c1 : wr.cell? ⟨w2.heap.size, k, none⟩ = some (.bool y1) := by rw [hy1]; exact cell_on hbr (bls_cell R12.out.1 (by omega))
      have c2 : wr.cell? ⟨w2.heap.size + 1, k, none⟩ = some (.bool y2) := by rw [hy2]; exact cell_on hbr (bls_cell R12.out.2.1 (by omega))
      have c3 : wr.cell? ⟨w11.heap.size, k, none⟩ = some (.int .i64 x1) := by rw [hx1]; exact cell_on hbr (lev_at R12.out.2.2.1 (by omega))
      have c4 : wr.cell? ⟨w11.heap.size + 1, k, none⟩ = some (.int .i64 x2) := by rw [hx2]; exact cell_on hbr (lev_at R12.out.2.2.2.1 (by omega))
      have c5 : wr.cell? ⟨w11.heap.size + 1 + 1, k, none⟩ = some (.int .i64 x3) := by rw [hx3]; exact cell_on hbr (lev_at R12.out.2.2.2.2.1 (by omega))
      have c6 : wr.cell? ⟨w11.heap.size + 1 + 1 + 1, k, none⟩ = some (.int .i64 x4) := by rw [hx4]; exact cell_on hbr (lev_at R12.out.2.2.2.2.2 (by omega))
      have HSD : Hid (sideOf g.ss f1 f2 a b' c d k = if z = 0 then (y1, y2, !(x1 == 10001) && (!(x3 == 10001) && (decide (x1 ≤ x4) && decide (x3 ≤ x2)))) else (z == 1, z == 2, false)) := Lib.hid (by rw [sideOf, ← hz, ← hx1, ← hx2, ← hx3, ← hx4, ← hy1, ← hy2])
      have HO := Lib.hid hown
      have hk1 : (k : Int) < 100 := by omega
      clear hz hx1 hx2 hx3 hx4 hy1 hy2 hown hsc
      by_cases hz0 : z = 0
      · have hz1 : (z == 0) = true := by simpa using hz0
        go_wp2_with fail
        have hC : (fun W => W.cell? ⟨w2.heap.size, k, none⟩ = some (.bool y1) ∧ W.cell? ⟨w2.heap.size + 1, k, none⟩ = some (.bool y2) ∧ W.cell? ⟨w11.heap.size, k, none⟩ = some (.int .i64 x1) ∧ W.cell? ⟨w11.heap.size + 1, k, none⟩ = some (.int .i64 x2) ∧ W.cell? ⟨w11.heap.size + 1 + 1, k, none⟩ = some (.int .i64 x3) ∧ W.cell? ⟨w11.heap.size + 1 + 1 + 1, k, none⟩ = some (.int .i64 x4)) (wr.alloc (.cells #[.bool false, .bool false, .bool false] 41)).drew := ⟨cell_al _ c1, cell_al _ c2, cell_al _ c3, cell_al _ c4, cell_al _ c5, cell_al _ c6⟩
        have HCW : Hid ((fun W => W.cell? ⟨w2.heap.size, k, none⟩ = some (.bool y1) ∧ W.cell? ⟨w2.heap.size + 1, k, none⟩ = some (.bool y2) ∧ W.cell? ⟨w11.heap.size, k, none⟩ = some (.int .i64 x1) ∧ W.cell? ⟨w11.heap.size + 1, k, none⟩ = some (.int .i64 x2) ∧ W.cell? ⟨w11.heap.size + 1 + 1, k, none⟩ = some (.int .i64 x3) ∧ W.cell? ⟨w11.heap.size + 1 + 1 + 1, k, none⟩ = some (.int .i64 x4)) wr) := Lib.hid ⟨c1, c2, c3, c4, c5, c6⟩
        clear q0 c1 c2 c3 c4 c5 c6
        by_cases ha0 : x1 = 10001
        · have ha1 : (x1 == 10001) = true := by simpa using ha0
          have ha2 : (x1 != 10001) = false := by simpa using ha0
          refine Lim.regC' (fun W => W.cell? ⟨w2.heap.size, k, none⟩ = some (.bool y1) ∧ W.cell? ⟨w2.heap.size + 1, k, none⟩ = some (.bool y2) ∧ W.cell? ⟨w11.heap.size, k, none⟩ = some (.int .i64 x1) ∧ W.cell? ⟨w11.heap.size + 1, k, none⟩ = some (.int .i64 x2) ∧ W.cell? ⟨w11.heap.size + 1 + 1, k, none⟩ = some (.int .i64 x3) ∧ W.cell? ⟨w11.heap.size + 1 + 1 + 1, k, none⟩ = some (.int .i64 x4)) [] #[false, false, false, false, false, false, false, false, false, false, false, false, false, false, false, false, false, false, false, false, false, false, false, false, false, false, false, false, false, false, false, false, false, false, false, false] (by kernel_rfl) rfl ?_
          refine Lim.stepR 0 (fun _ => trivial) rfl (by kernel_rfl) (fun _ _ _ _ h => h) hC rfl ?_; apply Exists.intro; refine ⟨?_, ?_⟩
          · rintro w ⟨r1, r2, r3, r4, r5, r6⟩; go_simp; try with_reducible rfl
          simp only [Act.put, List.setIfInBounds_toArray, List.set_cons_succ, List.set_cons_zero]
          refine Lim.stepR 1 (fun _ => trivial) rfl (by kernel_rfl) (fun _ _ _ _ h => h) hC rfl ?_; apply Exists.intro; refine ⟨?_, ?_⟩
          · rintro w ⟨r1, r2, r3, r4, r5, r6⟩; go_simp; try with_reducible rfl
          simp only [Act.put, List.setIfInBounds_toArray, List.set_cons_succ, List.set_cons_zero]
          refine Lim.stepR 2 (fun _ => trivial) rfl (by kernel_rfl) (fun _ _ _ _ h => h) hC rfl ?_; apply Exists.intro; refine ⟨?_, ?_⟩
          · rintro w ⟨r1, r2, r3, r4, r5, r6⟩; go_simp; try with_reducible rfl
          simp only [Act.put, List.setIfInBounds_toArray, List.set_cons_succ, List.set_cons_zero]
          refine Lim.stepR 3 (fun _ => trivial) rfl (by kernel_rfl) (fun _ _ _ _ h => h) hC rfl ?_; apply Exists.intro; refine ⟨?_, ?_⟩
          · rintro w ⟨r1, r2, r3, r4, r5, r6⟩; go_simp; try with_reducible rfl
          simp only [Act.put, List.setIfInBounds_toArray, List.set_cons_succ, List.set_cons_zero]
          refine Lim.stepR 4 (fun _ => trivial) rfl (by kernel_rfl) (fun _ _ _ _ h => h) hC rfl ?_; apply Exists.intro; refine ⟨?_, ?_⟩
          · rintro w ⟨r1, r2, r3, r4, r5, r6⟩; go_simp; try with_reducible rfl
          simp only [Act.put, List.setIfInBounds_toArray, List.set_cons_succ, List.set_cons_zero]
          refine Lim.stepR 5 (fun _ => trivial) rfl (by kernel_rfl) (fun _ _ _ _ h => h) hC rfl ?_; apply Exists.intro; refine ⟨?_, ?_⟩
          · rintro w ⟨r1, r2, r3, r4, r5, r6⟩; go_simp; try with_reducible rfl
          simp only [Act.put, List.setIfInBounds_toArray, List.set_cons_succ, List.set_cons_zero]
          refine Lim.stepR 6 (fun _ => trivial) rfl (by kernel_rfl) (fun _ _ _ _ h => h) hC rfl ?_; apply Exists.intro; refine ⟨?_, ?_⟩
          · rintro w ⟨r1, r2, r3, r4, r5, r6⟩; go_simp; try with_reducible rfl
          simp only [Act.put, List.setIfInBounds_toArray, List.set_cons_succ, List.set_cons_zero]
          refine Lim.stepR 7 (fun _ => trivial) rfl (by kernel_rfl) (fun _ _ _ _ h => h) hC rfl ?_; apply Exists.intro; refine ⟨?_, ?_⟩
          · rintro w ⟨r1, r2, r3, r4, r5, r6⟩; go_simp; try with_reducible rfl
          simp only [Act.put, List.setIfInBounds_toArray, List.set_cons_succ, List.set_cons_zero]
          refine Lim.stepR 8 (fun _ => trivial) rfl (by kernel_rfl) (fun _ _ _ _ h => h) hC rfl ?_; apply Exists.intro; refine ⟨?_, ?_⟩
          · rintro w ⟨r1, r2, r3, r4, r5, r6⟩; go_simp; try with_reducible rfl
          simp only [Act.put, List.setIfInBounds_toArray, List.set_cons_succ, List.set_cons_zero]
          refine Lim.stepR 9 (fun _ => trivial) rfl (by kernel_rfl) (fun _ _ _ _ h => h) hC rfl ?_; apply Exists.intro; refine ⟨?_, ?_⟩
          · rintro w ⟨r1, r2, r3, r4, r5, r6⟩; go_simp; try with_reducible rfl
          simp only [Act.put, List.setIfInBounds_toArray, List.set_cons_succ, List.set_cons_zero]
          refine Lim.stepR 10 (fun _ => trivial) rfl (by kernel_rfl) (fun _ _ _ _ h => h) hC rfl ?_; apply Exists.intro; refine ⟨?_, ?_⟩
          · rintro w ⟨r1, r2, r3, r4, r5, r6⟩; go_simp; try with_reducible rfl
          simp only [Act.put, List.setIfInBounds_toArray, List.set_cons_succ, List.set_cons_zero]
          refine Lim.stepS 11 (fun _ => trivial) rfl (by kernel_rfl) (fun _ _ _ _ h => h) hC rfl ?_
          simp only [Act.put, List.setIfInBounds_toArray, List.set_cons_succ, List.set_cons_zero]
          refine Lim.stepS 12 (fun _ => trivial) rfl (by kernel_rfl) (fun _ _ _ _ h => h) hC rfl ?_
          simp only [Act.put, List.setIfInBounds_toArray, List.set_cons_succ, List.set_cons_zero]
          refine Lim.stepS 13 (fun _ => trivial) rfl (by kernel_rfl) (fun _ _ _ _ h => h) hC rfl ?_
          simp only [Act.put, List.setIfInBounds_toArray, List.set_cons_succ, List.set_cons_zero]
          refine Lim.stepS 14 (fun _ => trivial) rfl (by kernel_rfl) (fun _ _ _ _ h => h) hC rfl ?_
          simp only [Act.put, List.setIfInBounds_toArray, List.set_cons_succ, List.set_cons_zero]
          refine Lim.stepR 15 (fun _ => trivial) rfl (by kernel_rfl) (fun _ _ _ _ h => h) hC rfl ?_; apply Exists.intro; refine ⟨?_, ?_⟩
          · rintro w ⟨r1, r2, r3, r4, r5, r6⟩; go_simp; try with_reducible rfl
          simp only [Act.put, List.setIfInBounds_toArray, List.set_cons_succ, List.set_cons_zero]
          refine Lim.stepR 16 (fun _ => trivial) rfl (by kernel_rfl) (fun _ _ _ _ h => h) hC rfl ?_; apply Exists.intro; refine ⟨?_, ?_⟩
          · rintro w ⟨r1, r2, r3, r4, r5, r6⟩; go_simp; try with_reducible rfl
          simp only [Act.put, List.setIfInBounds_toArray, List.set_cons_succ, List.set_cons_zero]
          refine Lim.stepS 17 (fun _ => trivial) rfl (by kernel_rfl) (fun _ _ _ _ h => h) hC rfl ?_
          simp only [Act.put, List.setIfInBounds_toArray, List.set_cons_succ, List.set_cons_zero]
          refine Lim.stepS 18 (fun _ => trivial) rfl (by kernel_rfl) (fun _ _ _ _ h => h) hC rfl ?_
          simp only [Act.put, List.setIfInBounds_toArray, List.set_cons_succ, List.set_cons_zero]
          refine Lim.stepS 19 (fun _ => trivial) rfl (by kernel_rfl) (fun _ _ _ _ h => h) hC rfl ?_
          simp only [Act.put, List.setIfInBounds_toArray, List.set_cons_succ, List.set_cons_zero]
          refine Lim.stepS 20 (fun _ => trivial) rfl (by kernel_rfl) (fun _ _ _ _ h => h) hC rfl ?_
          simp only [Act.put, List.setIfInBounds_toArray, List.set_cons_succ, List.set_cons_zero]
          refine Lim.stepS 21 (fun _ => trivial) rfl (by kernel_rfl) (fun _ _ _ _ h => h) hC rfl ?_
          simp only [Act.put, List.setIfInBounds_toArray, List.set_cons_succ, List.set_cons_zero]
          refine Lim.stepS 22 (fun _ => trivial) rfl (by kernel_rfl) (fun _ _ _ _ h => h) hC rfl ?_
          simp only [Act.put, List.setIfInBounds_toArray, List.set_cons_succ, List.set_cons_zero]
          refine Lim.stepS 23 (fun _ => trivial) rfl (by kernel_rfl) (fun _ _ _ _ h => h) hC rfl ?_
          simp only [Act.put, List.setIfInBounds_toArray, List.set_cons_succ, List.set_cons_zero]
          refine Lim.stepR 24 (fun _ => trivial) rfl (by kernel_rfl) (fun _ _ _ _ h => h) hC rfl ?_; apply Exists.intro; refine ⟨?_, ?_⟩
          · rintro w ⟨r1, r2, r3, r4, r5, r6⟩; go_simp; try with_reducible rfl
          simp only [Act.put, List.setIfInBounds_toArray, List.set_cons_succ, List.set_cons_zero]
          refine Lim.stepR 25 (fun _ => trivial) rfl (by kernel_rfl) (fun _ _ _ _ h => h) hC rfl ?_; apply Exists.intro; refine ⟨?_, ?_⟩
          · rintro w ⟨r1, r2, r3, r4, r5, r6⟩; go_simp; try with_reducible rfl
          simp only [Act.put, List.setIfInBounds_toArray, List.set_cons_succ, List.set_cons_zero]
          refine Lim.stepS 26 (fun _ => trivial) rfl (by kernel_rfl) (fun _ _ _ _ h => h) hC rfl ?_
          simp only [Act.put, List.setIfInBounds_toArray, List.set_cons_succ, List.set_cons_zero]
          refine Lim.stepS 27 (fun _ => trivial) rfl (by kernel_rfl) (fun _ _ _ _ h => h) hC rfl ?_
          simp only [Act.put, List.setIfInBounds_toArray, List.set_cons_succ, List.set_cons_zero]
          refine Lim.stepS 28 (fun _ => trivial) rfl (by kernel_rfl) (fun _ _ _ _ h => h) hC rfl ?_
          simp only [Act.put, List.setIfInBounds_toArray, List.set_cons_succ, List.set_cons_zero]
          refine Lim.stepS 29 (fun _ => trivial) rfl (by kernel_rfl) (fun _ _ _ _ h => h) hC rfl ?_
          simp only [Act.put, List.setIfInBounds_toArray, List.set_cons_succ, List.set_cons_zero]
          refine Lim.stepS 30 (fun _ => trivial) rfl (by kernel_rfl) (fun _ _ _ _ h => h) hC rfl ?_
          simp only [Act.put, List.setIfInBounds_toArray, List.set_cons_succ, List.set_cons_zero]
          refine Lim.stepS 31 (fun _ => trivial) rfl (by kernel_rfl) (fun _ _ _ _ h => h) hC rfl ?_
          simp only [Act.put, List.setIfInBounds_toArray, List.set_cons_succ, List.set_cons_zero]
          refine Lim.stepS 32 (fun _ => trivial) rfl (by kernel_rfl) (fun _ _ _ _ h => h) hC rfl ?_
          simp only [Act.put, List.setIfInBounds_toArray, List.set_cons_succ, List.set_cons_zero]
          refine Lim.stepR 33 (fun _ => trivial) rfl (by kernel_rfl) (fun _ _ _ _ h => h) hC rfl ?_; apply Exists.intro; refine ⟨?_, ?_⟩
          · rintro w ⟨r1, r2, r3, r4, r5, r6⟩; go_simp; try with_reducible rfl
          simp only [Act.put, List.setIfInBounds_toArray, List.set_cons_succ, List.set_cons_zero]
          refine Lim.stepR 34 (fun _ => trivial) rfl (by kernel_rfl) (fun _ _ _ _ h => h) hC rfl ?_; apply Exists.intro; refine ⟨?_, ?_⟩
          · rintro w ⟨r1, r2, r3, r4, r5, r6⟩; go_simp; try with_reducible rfl
          simp only [Act.put, List.setIfInBounds_toArray, List.set_cons_succ, List.set_cons_zero]
          refine Lim.stepE 35 (fun _ => trivial) rfl (by kernel_rfl) rfl (fun K hK => ?_)   -- E store
          go_simp
          have hCN : (fun W => W.cell? ⟨w2.heap.size, k, none⟩ = some (.bool y1) ∧ W.cell? ⟨w2.heap.size + 1, k, none⟩ = some (.bool y2) ∧ W.cell? ⟨w11.heap.size, k, none⟩ = some (.int .i64 x1) ∧ W.cell? ⟨w11.heap.size + 1, k, none⟩ = some (.int .i64 x2) ∧ W.cell? ⟨w11.heap.size + 1 + 1, k, none⟩ = some (.int .i64 x3) ∧ W.cell? ⟨w11.heap.size + 1 + 1 + 1, k, none⟩ = some (.int .i64 x4)) (wr.alloc (.cells #[.bool y1, .bool y2, .bool false] 41)).drew := by
            obtain ⟨r1, r2, r3, r4, r5, r6⟩ := HCW.out
            exact ⟨cell_al _ r1, cell_al _ r2, cell_al _ r3, cell_al _ r4, cell_al _ r5, cell_al _ r6⟩
          refine hK _ _ hCN ?_
          clear hCN
          refine Lim.stepD (by kernel_rfl) ?_
          clear hC
          have O9 := Lib.hid (owns_below HO.out ((Below.refl _ wr).alloc (Nat.le_refl _) (.cells #[.bool y1, .bool y2, .bool false] 41)).drew)
          have B9 : Below w12.heap.size w12 (wr.alloc (.cells #[.bool y1, .bool y2, .bool false] 41)).drew := (hbr.alloc hsr _).drew
          have g9 : (wr.alloc (.cells #[.bool y1, .bool y2, .bool false] 41)).drew.cell? ⟨wr.heap.size, 0, none⟩ = some (.bool y1) ∧ (wr.alloc (.cells #[.bool y1, .bool y2, .bool false] 41)).drew.cell? ⟨wr.heap.size, 1, none⟩ = some (.bool y2) ∧ (wr.alloc (.cells #[.bool y1, .bool y2, .bool false] 41)).drew.cell? ⟨wr.heap.size, 2, none⟩ = some (.bool false) := ⟨cell_new wr #[.bool y1, .bool y2, .bool false] _ 0 (by simp), cell_new wr #[.bool y1, .bool y2, .bool false] _ 1 (by simp), cell_new wr #[.bool y1, .bool y2, .bool false] _ 2 (by simp)⟩
          have hs9 : wr.heap.size < (wr.alloc (.cells #[.bool y1, .bool y2, .bool false] 41)).drew.heap.size := World.block_lt_of_cell? _ _ g9.1
          obtain ⟨g1, g2, g3⟩ := g9
          generalize (wr.alloc (.cells #[.bool y1, .bool y2, .bool false] 41)).drew = w9 at O9 B9 g1 g2 g3 hs9 ⊢
          go_wp2_with (at_builtin; refine wpList_append_own _ rfl _ _ 34 rfl w12.heap.size 41 i0 (.agg #[.bool false, .bool false, .bool false]) 3 3 Try.underlying34 HI.out.1 HI.out.2.1 HI.out.2.2.1 HI.out.2.2.2 rfl (by decide) _ _ _ rfl (O9.out.alloc (.cells #[.bool y1, .bool y2, .bool false] 41)) ⟨w9.heap.size, 0, none⟩ 1 1 [.bool y1, .bool y2, .bool false] rfl rfl (cell_three_new _ rfl _ _ _ _) (by simp [Value.oneCell']) (by unfold maxLen; omega) (by omega) (by simp; omega) ?_; intro v' w13 hown3 hgrow _; have H3 := Lib.hid (And.intro hown3 hgrow); clear hown3 hgrow)
          go_roundw
          case rel =>
            refine ⟨k + 1, by omega, by go_num, ?_, ?_⟩
            · have e : sideCells ((List.range (k + 1)).map (sideOf g.ss f1 f2 a b' c d)) = sideCells ((List.range k).map (sideOf g.ss f1 f2 a b' c d)) ++ [.bool y1, .bool y2, .bool false] := by
                rw [List.range_succ, List.map_append, List.map_singleton, sideCells_snoc, HSD.out, if_pos hz0, ha1]; rfl --]
              rw [e]; exact H3.out.1
            · exact ((B9.alloc (by omega) _)).grown H3.out.2 (by simp; omega) (fun j e => by have := ((O9.out.alloc (.cells #[.bool y1, .bool y2, .bool false] 41))).lt j e; omega)
          case measure => simp [intOf]; omega
        · have ha1 : (x1 == 10001) = false := by simpa using ha0
          have ha2 : (x1 != 10001) = true := by simpa using ha0
          by_cases hc0 : x3 = 10001
          · have hc1 : (x3 == 10001) = true := by simpa using hc0
            have hc2 : (x3 != 10001) = false := by simpa using hc0
            refine Lim.regC' (fun W => W.cell? ⟨w2.heap.size, k, none⟩ = some (.bool y1) ∧ W.cell? ⟨w2.heap.size + 1, k, none⟩ = some (.bool y2) ∧ W.cell? ⟨w11.heap.size, k, none⟩ = some (.int .i64 x1) ∧ W.cell? ⟨w11.heap.size + 1, k, none⟩ = some (.int .i64 x2) ∧ W.cell? ⟨w11.heap.size + 1 + 1, k, none⟩ = some (.int .i64 x3) ∧ W.cell? ⟨w11.heap.size + 1 + 1 + 1, k, none⟩ = some (.int .i64 x4)) [] #[false, false, false, false, false, false, false, false, false, false, false, false, false, false, false, false, false, false, false, false, false, false, false, false, false, false, false, false, false, false, false, false, false, false, false, false] (by kernel_rfl) rfl ?_
            refine Lim.stepR 0 (fun _ => trivial) rfl (by kernel_rfl) (fun _ _ _ _ h => h) hC rfl ?_; apply Exists.intro; refine ⟨?_, ?_⟩
            · rintro w ⟨r1, r2, r3, r4, r5, r6⟩; go_simp; try with_reducible rfl
            simp only [Act.put, List.setIfInBounds_toArray, List.set_cons_succ, List.set_cons_zero]
            refine Lim.stepR 1 (fun _ => trivial) rfl (by kernel_rfl) (fun _ _ _ _ h => h) hC rfl ?_; apply Exists.intro; refine ⟨?_, ?_⟩
            · rintro w ⟨r1, r2, r3, r4, r5, r6⟩; go_simp; try with_reducible rfl
            simp only [Act.put, List.setIfInBounds_toArray, List.set_cons_succ, List.set_cons_zero]
            refine Lim.stepR 2 (fun _ => trivial) rfl (by kernel_rfl) (fun _ _ _ _ h => h) hC rfl ?_; apply Exists.intro; refine ⟨?_, ?_⟩
            · rintro w ⟨r1, r2, r3, r4, r5, r6⟩; go_simp; try with_reducible rfl
            simp only [Act.put, List.setIfInBounds_toArray, List.set_cons_succ, List.set_cons_zero]
            refine Lim.stepR 3 (fun _ => trivial) rfl (by kernel_rfl) (fun _ _ _ _ h => h) hC rfl ?_; apply Exists.intro; refine ⟨?_, ?_⟩
            · rintro w ⟨r1, r2, r3, r4, r5, r6⟩; go_simp; try with_reducible rfl
            simp only [Act.put, List.setIfInBounds_toArray, List.set_cons_succ, List.set_cons_zero]
            refine Lim.stepR 4 (fun _ => trivial) rfl (by kernel_rfl) (fun _ _ _ _ h => h) hC rfl ?_; apply Exists.intro; refine ⟨?_, ?_⟩
            · rintro w ⟨r1, r2, r3, r4, r5, r6⟩; go_simp; try with_reducible rfl
            simp only [Act.put, List.setIfInBounds_toArray, List.set_cons_succ, List.set_cons_zero]
            refine Lim.stepR 5 (fun _ => trivial) rfl (by kernel_rfl) (fun _ _ _ _ h => h) hC rfl ?_; apply Exists.intro; refine ⟨?_, ?_⟩
            · rintro w ⟨r1, r2, r3, r4, r5, r6⟩; go_simp; try with_reducible rfl
            simp only [Act.put, List.setIfInBounds_toArray, List.set_cons_succ, List.set_cons_zero]
            refine Lim.stepR 6 (fun _ => trivial) rfl (by kernel_rfl) (fun _ _ _ _ h => h) hC rfl ?_; apply Exists.intro; refine ⟨?_, ?_⟩
            · rintro w ⟨r1, r2, r3, r4, r5, r6⟩; go_simp; try with_reducible rfl
            simp only [Act.put, List.setIfInBounds_toArray, List.set_cons_succ, List.set_cons_zero]
            refine Lim.stepR 7 (fun _ => trivial) rfl (by kernel_rfl) (fun _ _ _ _ h => h) hC rfl ?_; apply Exists.intro; refine ⟨?_, ?_⟩
            · rintro w ⟨r1, r2, r3, r4, r5, r6⟩; go_simp; try with_reducible rfl
            simp only [Act.put, List.setIfInBounds_toArray, List.set_cons_succ, List.set_cons_zero]
            refine Lim.stepR 8 (fun _ => trivial) rfl (by kernel_rfl) (fun _ _ _ _ h => h) hC rfl ?_; apply Exists.intro; refine ⟨?_, ?_⟩
            · rintro w ⟨r1, r2, r3, r4, r5, r6⟩; go_simp; try with_reducible rfl
            simp only [Act.put, List.setIfInBounds_toArray, List.set_cons_succ, List.set_cons_zero]
            refine Lim.stepR 9 (fun _ => trivial) rfl (by kernel_rfl) (fun _ _ _ _ h => h) hC rfl ?_; apply Exists.intro; refine ⟨?_, ?_⟩
            · rintro w ⟨r1, r2, r3, r4, r5, r6⟩; go_simp; try with_reducible rfl
            simp only [Act.put, List.setIfInBounds_toArray, List.set_cons_succ, List.set_cons_zero]
            refine Lim.stepR 10 (fun _ => trivial) rfl (by kernel_rfl) (fun _ _ _ _ h => h) hC rfl ?_; apply Exists.intro; refine ⟨?_, ?_⟩
            · rintro w ⟨r1, r2, r3, r4, r5, r6⟩; go_simp; try with_reducible rfl
            simp only [Act.put, List.setIfInBounds_toArray, List.set_cons_succ, List.set_cons_zero]
            refine Lim.stepR 11 (fun _ => trivial) rfl (by kernel_rfl) (fun _ _ _ _ h => h) hC rfl ?_; apply Exists.intro; refine ⟨?_, ?_⟩
            · rintro w ⟨r1, r2, r3, r4, r5, r6⟩; go_simp; try with_reducible rfl
            simp only [Act.put, List.setIfInBounds_toArray, List.set_cons_succ, List.set_cons_zero]
            refine Lim.stepR 12 (fun _ => trivial) rfl (by kernel_rfl) (fun _ _ _ _ h => h) hC rfl ?_; apply Exists.intro; refine ⟨?_, ?_⟩
            · rintro w ⟨r1, r2, r3, r4, r5, r6⟩; go_simp; try with_reducible rfl
            simp only [Act.put, List.setIfInBounds_toArray, List.set_cons_succ, List.set_cons_zero]
            refine Lim.stepR 13 (fun _ => trivial) rfl (by kernel_rfl) (fun _ _ _ _ h => h) hC rfl ?_; apply Exists.intro; refine ⟨?_, ?_⟩
            · rintro w ⟨r1, r2, r3, r4, r5, r6⟩; go_simp; try with_reducible rfl
            simp only [Act.put, List.setIfInBounds_toArray, List.set_cons_succ, List.set_cons_zero]
            refine Lim.stepR 14 (fun _ => trivial) rfl (by kernel_rfl) (fun _ _ _ _ h => h) hC rfl ?_; apply Exists.intro; refine ⟨?_, ?_⟩
            · rintro w ⟨r1, r2, r3, r4, r5, r6⟩; go_simp; try with_reducible rfl
            simp only [Act.put, List.setIfInBounds_toArray, List.set_cons_succ, List.set_cons_zero]
            refine Lim.stepR 15 (fun _ => trivial) rfl (by kernel_rfl) (fun _ _ _ _ h => h) hC rfl ?_; apply Exists.intro; refine ⟨?_, ?_⟩
            · rintro w ⟨r1, r2, r3, r4, r5, r6⟩; go_simp; try with_reducible rfl
            simp only [Act.put, List.setIfInBounds_toArray, List.set_cons_succ, List.set_cons_zero]
            refine Lim.stepR 16 (fun _ => trivial) rfl (by kernel_rfl) (fun _ _ _ _ h => h) hC rfl ?_; apply Exists.intro; refine ⟨?_, ?_⟩
            · rintro w ⟨r1, r2, r3, r4, r5, r6⟩; go_simp; try with_reducible rfl
            simp only [Act.put, List.setIfInBounds_toArray, List.set_cons_succ, List.set_cons_zero]
            refine Lim.stepS 17 (fun _ => trivial) rfl (by kernel_rfl) (fun _ _ _ _ h => h) hC rfl ?_
            simp only [Act.put, List.setIfInBounds_toArray, List.set_cons_succ, List.set_cons_zero]
            refine Lim.stepS 18 (fun _ => trivial) rfl (by kernel_rfl) (fun _ _ _ _ h => h) hC rfl ?_
            simp only [Act.put, List.setIfInBounds_toArray, List.set_cons_succ, List.set_cons_zero]
            refine Lim.stepS 19 (fun _ => trivial) rfl (by kernel_rfl) (fun _ _ _ _ h => h) hC rfl ?_
            simp only [Act.put, List.setIfInBounds_toArray, List.set_cons_succ, List.set_cons_zero]
            refine Lim.stepS 20 (fun _ => trivial) rfl (by kernel_rfl) (fun _ _ _ _ h => h) hC rfl ?_
            simp only [Act.put, List.setIfInBounds_toArray, List.set_cons_succ, List.set_cons_zero]
            refine Lim.stepS 21 (fun _ => trivial) rfl (by kernel_rfl) (fun _ _ _ _ h => h) hC rfl ?_
            simp only [Act.put, List.setIfInBounds_toArray, List.set_cons_succ, List.set_cons_zero]
            refine Lim.stepS 22 (fun _ => trivial) rfl (by kernel_rfl) (fun _ _ _ _ h => h) hC rfl ?_
            simp only [Act.put, List.setIfInBounds_toArray, List.set_cons_succ, List.set_cons_zero]
            refine Lim.stepS 23 (fun _ => trivial) rfl (by kernel_rfl) (fun _ _ _ _ h => h) hC rfl ?_
            simp only [Act.put, List.setIfInBounds_toArray, List.set_cons_succ, List.set_cons_zero]
            refine Lim.stepR 24 (fun _ => trivial) rfl (by kernel_rfl) (fun _ _ _ _ h => h) hC rfl ?_; apply Exists.intro; refine ⟨?_, ?_⟩
            · rintro w ⟨r1, r2, r3, r4, r5, r6⟩; go_simp; try with_reducible rfl
            simp only [Act.put, List.setIfInBounds_toArray, List.set_cons_succ, List.set_cons_zero]
            refine Lim.stepR 25 (fun _ => trivial) rfl (by kernel_rfl) (fun _ _ _ _ h => h) hC rfl ?_; apply Exists.intro; refine ⟨?_, ?_⟩
            · rintro w ⟨r1, r2, r3, r4, r5, r6⟩; go_simp; try with_reducible rfl
            simp only [Act.put, List.setIfInBounds_toArray, List.set_cons_succ, List.set_cons_zero]
            refine Lim.stepS 26 (fun _ => trivial) rfl (by kernel_rfl) (fun _ _ _ _ h => h) hC rfl ?_
            simp only [Act.put, List.setIfInBounds_toArray, List.set_cons_succ, List.set_cons_zero]
            refine Lim.stepS 27 (fun _ => trivial) rfl (by kernel_rfl) (fun _ _ _ _ h => h) hC rfl ?_
            simp only [Act.put, List.setIfInBounds_toArray, List.set_cons_succ, List.set_cons_zero]
            refine Lim.stepS 28 (fun _ => trivial) rfl (by kernel_rfl) (fun _ _ _ _ h => h) hC rfl ?_
            simp only [Act.put, List.setIfInBounds_toArray, List.set_cons_succ, List.set_cons_zero]
            refine Lim.stepS 29 (fun _ => trivial) rfl (by kernel_rfl) (fun _ _ _ _ h => h) hC rfl ?_
            simp only [Act.put, List.setIfInBounds_toArray, List.set_cons_succ, List.set_cons_zero]
            refine Lim.stepS 30 (fun _ => trivial) rfl (by kernel_rfl) (fun _ _ _ _ h => h) hC rfl ?_
            simp only [Act.put, List.setIfInBounds_toArray, List.set_cons_succ, List.set_cons_zero]
            refine Lim.stepS 31 (fun _ => trivial) rfl (by kernel_rfl) (fun _ _ _ _ h => h) hC rfl ?_
            simp only [Act.put, List.setIfInBounds_toArray, List.set_cons_succ, List.set_cons_zero]
            refine Lim.stepS 32 (fun _ => trivial) rfl (by kernel_rfl) (fun _ _ _ _ h => h) hC rfl ?_
            simp only [Act.put, List.setIfInBounds_toArray, List.set_cons_succ, List.set_cons_zero]
            refine Lim.stepR 33 (fun _ => trivial) rfl (by kernel_rfl) (fun _ _ _ _ h => h) hC rfl ?_; apply Exists.intro; refine ⟨?_, ?_⟩
            · rintro w ⟨r1, r2, r3, r4, r5, r6⟩; go_simp; try with_reducible rfl
            simp only [Act.put, List.setIfInBounds_toArray, List.set_cons_succ, List.set_cons_zero]
            refine Lim.stepR 34 (fun _ => trivial) rfl (by kernel_rfl) (fun _ _ _ _ h => h) hC rfl ?_; apply Exists.intro; refine ⟨?_, ?_⟩
            · rintro w ⟨r1, r2, r3, r4, r5, r6⟩; go_simp; try with_reducible rfl
            simp only [Act.put, List.setIfInBounds_toArray, List.set_cons_succ, List.set_cons_zero]
            refine Lim.stepE 35 (fun _ => trivial) rfl (by kernel_rfl) rfl (fun K hK => ?_)   -- E store
            go_simp
            have hCN : (fun W => W.cell? ⟨w2.heap.size, k, none⟩ = some (.bool y1) ∧ W.cell? ⟨w2.heap.size + 1, k, none⟩ = some (.bool y2) ∧ W.cell? ⟨w11.heap.size, k, none⟩ = some (.int .i64 x1) ∧ W.cell? ⟨w11.heap.size + 1, k, none⟩ = some (.int .i64 x2) ∧ W.cell? ⟨w11.heap.size + 1 + 1, k, none⟩ = some (.int .i64 x3) ∧ W.cell? ⟨w11.heap.size + 1 + 1 + 1, k, none⟩ = some (.int .i64 x4)) (wr.alloc (.cells #[.bool y1, .bool y2, .bool false] 41)).drew := by
              obtain ⟨r1, r2, r3, r4, r5, r6⟩ := HCW.out
              exact ⟨cell_al _ r1, cell_al _ r2, cell_al _ r3, cell_al _ r4, cell_al _ r5, cell_al _ r6⟩
            refine hK _ _ hCN ?_
            clear hCN
            refine Lim.stepD (by kernel_rfl) ?_
            clear hC
            have O9 := Lib.hid (owns_below HO.out ((Below.refl _ wr).alloc (Nat.le_refl _) (.cells #[.bool y1, .bool y2, .bool false] 41)).drew)
            have B9 : Below w12.heap.size w12 (wr.alloc (.cells #[.bool y1, .bool y2, .bool false] 41)).drew := (hbr.alloc hsr _).drew
            have g9 : (wr.alloc (.cells #[.bool y1, .bool y2, .bool false] 41)).drew.cell? ⟨wr.heap.size, 0, none⟩ = some (.bool y1) ∧ (wr.alloc (.cells #[.bool y1, .bool y2, .bool false] 41)).drew.cell? ⟨wr.heap.size, 1, none⟩ = some (.bool y2) ∧ (wr.alloc (.cells #[.bool y1, .bool y2, .bool false] 41)).drew.cell? ⟨wr.heap.size, 2, none⟩ = some (.bool false) := ⟨cell_new wr #[.bool y1, .bool y2, .bool false] _ 0 (by simp), cell_new wr #[.bool y1, .bool y2, .bool false] _ 1 (by simp), cell_new wr #[.bool y1, .bool y2, .bool false] _ 2 (by simp)⟩
            have hs9 : wr.heap.size < (wr.alloc (.cells #[.bool y1, .bool y2, .bool false] 41)).drew.heap.size := World.block_lt_of_cell? _ _ g9.1
            obtain ⟨g1, g2, g3⟩ := g9
            generalize (wr.alloc (.cells #[.bool y1, .bool y2, .bool false] 41)).drew = w9 at O9 B9 g1 g2 g3 hs9 ⊢
            go_wp2_with (at_builtin; refine wpList_append_own _ rfl _ _ 34 rfl w12.heap.size 41 i0 (.agg #[.bool false, .bool false, .bool false]) 3 3 Try.underlying34 HI.out.1 HI.out.2.1 HI.out.2.2.1 HI.out.2.2.2 rfl (by decide) _ _ _ rfl (O9.out.alloc (.cells #[.bool y1, .bool y2, .bool false] 41)) ⟨w9.heap.size, 0, none⟩ 1 1 [.bool y1, .bool y2, .bool false] rfl rfl (cell_three_new _ rfl _ _ _ _) (by simp [Value.oneCell']) (by unfold maxLen; omega) (by omega) (by simp; omega) ?_; intro v' w13 hown3 hgrow _; have H3 := Lib.hid (And.intro hown3 hgrow); clear hown3 hgrow)
            go_roundw
            case rel =>
              refine ⟨k + 1, by omega, by go_num, ?_, ?_⟩
              · have e : sideCells ((List.range (k + 1)).map (sideOf g.ss f1 f2 a b' c d)) = sideCells ((List.range k).map (sideOf g.ss f1 f2 a b' c d)) ++ [.bool y1, .bool y2, .bool false] := by
                  rw [List.range_succ, List.map_append, List.map_singleton, sideCells_snoc, HSD.out, if_pos hz0, ha1, hc1]; rfl --]
                rw [e]; exact H3.out.1
              · exact ((B9.alloc (by omega) _)).grown H3.out.2 (by simp; omega) (fun j e => by have := ((O9.out.alloc (.cells #[.bool y1, .bool y2, .bool false] 41))).lt j e; omega)
            case measure => simp [intOf]; omega
          · have hc1 : (x3 == 10001) = false := by simpa using hc0
            have hc2 : (x3 != 10001) = true := by simpa using hc0
            obtain ⟨d1, hd1⟩ : ∃ d1, decide (x1 ≤ x4) = d1 := ⟨_, rfl⟩
            cases d1 with
            | false =>
              refine Lim.regC' (fun W => W.cell? ⟨w2.heap.size, k, none⟩ = some (.bool y1) ∧ W.cell? ⟨w2.heap.size + 1, k, none⟩ = some (.bool y2) ∧ W.cell? ⟨w11.heap.size, k, none⟩ = some (.int .i64 x1) ∧ W.cell? ⟨w11.heap.size + 1, k, none⟩ = some (.int .i64 x2) ∧ W.cell? ⟨w11.heap.size + 1 + 1, k, none⟩ = some (.int .i64 x3) ∧ W.cell? ⟨w11.heap.size + 1 + 1 + 1, k, none⟩ = some (.int .i64 x4)) [] #[false, false, false, false, false, false, false, false, false, false, false, false, false, false, false, false, false, false, false, false, false, false, false, false, false, false, false, false, false, false, false, false, false, false, false, false] (by kernel_rfl) rfl ?_
              refine Lim.stepR 0 (fun _ => trivial) rfl (by kernel_rfl) (fun _ _ _ _ h => h) hC rfl ?_; apply Exists.intro; refine ⟨?_, ?_⟩
              · rintro w ⟨r1, r2, r3, r4, r5, r6⟩; go_simp; try with_reducible rfl
              simp only [Act.put, List.setIfInBounds_toArray, List.set_cons_succ, List.set_cons_zero]
              refine Lim.stepR 1 (fun _ => trivial) rfl (by kernel_rfl) (fun _ _ _ _ h => h) hC rfl ?_; apply Exists.intro; refine ⟨?_, ?_⟩
              · rintro w ⟨r1, r2, r3, r4, r5, r6⟩; go_simp; try with_reducible rfl
              simp only [Act.put, List.setIfInBounds_toArray, List.set_cons_succ, List.set_cons_zero]
              refine Lim.stepR 2 (fun _ => trivial) rfl (by kernel_rfl) (fun _ _ _ _ h => h) hC rfl ?_; apply Exists.intro; refine ⟨?_, ?_⟩
              · rintro w ⟨r1, r2, r3, r4, r5, r6⟩; go_simp; try with_reducible rfl
              simp only [Act.put, List.setIfInBounds_toArray, List.set_cons_succ, List.set_cons_zero]
              refine Lim.stepR 3 (fun _ => trivial) rfl (by kernel_rfl) (fun _ _ _ _ h => h) hC rfl ?_; apply Exists.intro; refine ⟨?_, ?_⟩
              · rintro w ⟨r1, r2, r3, r4, r5, r6⟩; go_simp; try with_reducible rfl
              simp only [Act.put, List.setIfInBounds_toArray, List.set_cons_succ, List.set_cons_zero]
              refine Lim.stepR 4 (fun _ => trivial) rfl (by kernel_rfl) (fun _ _ _ _ h => h) hC rfl ?_; apply Exists.intro; refine ⟨?_, ?_⟩
              · rintro w ⟨r1, r2, r3, r4, r5, r6⟩; go_simp; try with_reducible rfl
              simp only [Act.put, List.setIfInBounds_toArray, List.set_cons_succ, List.set_cons_zero]
              refine Lim.stepR 5 (fun _ => trivial) rfl (by kernel_rfl) (fun _ _ _ _ h => h) hC rfl ?_; apply Exists.intro; refine ⟨?_, ?_⟩
              · rintro w ⟨r1, r2, r3, r4, r5, r6⟩; go_simp; try with_reducible rfl
              simp only [Act.put, List.setIfInBounds_toArray, List.set_cons_succ, List.set_cons_zero]
              refine Lim.stepR 6 (fun _ => trivial) rfl (by kernel_rfl) (fun _ _ _ _ h => h) hC rfl ?_; apply Exists.intro; refine ⟨?_, ?_⟩
              · rintro w ⟨r1, r2, r3, r4, r5, r6⟩; go_simp; try with_reducible rfl
              simp only [Act.put, List.setIfInBounds_toArray, List.set_cons_succ, List.set_cons_zero]
              refine Lim.stepR 7 (fun _ => trivial) rfl (by kernel_rfl) (fun _ _ _ _ h => h) hC rfl ?_; apply Exists.intro; refine ⟨?_, ?_⟩
              · rintro w ⟨r1, r2, r3, r4, r5, r6⟩; go_simp; try with_reducible rfl
              simp only [Act.put, List.setIfInBounds_toArray, List.set_cons_succ, List.set_cons_zero]
              refine Lim.stepR 8 (fun _ => trivial) rfl (by kernel_rfl) (fun _ _ _ _ h => h) hC rfl ?_; apply Exists.intro; refine ⟨?_, ?_⟩
              · rintro w ⟨r1, r2, r3, r4, r5, r6⟩; go_simp; try with_reducible rfl
              simp only [Act.put, List.setIfInBounds_toArray, List.set_cons_succ, List.set_cons_zero]
              refine Lim.stepR 9 (fun _ => trivial) rfl (by kernel_rfl) (fun _ _ _ _ h => h) hC rfl ?_; apply Exists.intro; refine ⟨?_, ?_⟩
              · rintro w ⟨r1, r2, r3, r4, r5, r6⟩; go_simp; try with_reducible rfl
              simp only [Act.put, List.setIfInBounds_toArray, List.set_cons_succ, List.set_cons_zero]
              refine Lim.stepR 10 (fun _ => trivial) rfl (by kernel_rfl) (fun _ _ _ _ h => h) hC rfl ?_; apply Exists.intro; refine ⟨?_, ?_⟩
              · rintro w ⟨r1, r2, r3, r4, r5, r6⟩; go_simp; try with_reducible rfl
              simp only [Act.put, List.setIfInBounds_toArray, List.set_cons_succ, List.set_cons_zero]
              refine Lim.stepR 11 (fun _ => trivial) rfl (by kernel_rfl) (fun _ _ _ _ h => h) hC rfl ?_; apply Exists.intro; refine ⟨?_, ?_⟩
              · rintro w ⟨r1, r2, r3, r4, r5, r6⟩; go_simp; try with_reducible rfl
              simp only [Act.put, List.setIfInBounds_toArray, List.set_cons_succ, List.set_cons_zero]
              refine Lim.stepR 12 (fun _ => trivial) rfl (by kernel_rfl) (fun _ _ _ _ h => h) hC rfl ?_; apply Exists.intro; refine ⟨?_, ?_⟩
              · rintro w ⟨r1, r2, r3, r4, r5, r6⟩; go_simp; try with_reducible rfl
              simp only [Act.put, List.setIfInBounds_toArray, List.set_cons_succ, List.set_cons_zero]
              refine Lim.stepR 13 (fun _ => trivial) rfl (by kernel_rfl) (fun _ _ _ _ h => h) hC rfl ?_; apply Exists.intro; refine ⟨?_, ?_⟩
              · rintro w ⟨r1, r2, r3, r4, r5, r6⟩; go_simp; try with_reducible rfl
              simp only [Act.put, List.setIfInBounds_toArray, List.set_cons_succ, List.set_cons_zero]
              refine Lim.stepR 14 (fun _ => trivial) rfl (by kernel_rfl) (fun _ _ _ _ h => h) hC rfl ?_; apply Exists.intro; refine ⟨?_, ?_⟩
              · rintro w ⟨r1, r2, r3, r4, r5, r6⟩; go_simp; try with_reducible rfl
              simp only [Act.put, List.setIfInBounds_toArray, List.set_cons_succ, List.set_cons_zero]
              refine Lim.stepR 15 (fun _ => trivial) rfl (by kernel_rfl) (fun _ _ _ _ h => h) hC rfl ?_; apply Exists.intro; refine ⟨?_, ?_⟩
              · rintro w ⟨r1, r2, r3, r4, r5, r6⟩; go_simp; try with_reducible rfl
              simp only [Act.put, List.setIfInBounds_toArray, List.set_cons_succ, List.set_cons_zero]
              refine Lim.stepR 16 (fun _ => trivial) rfl (by kernel_rfl) (fun _ _ _ _ h => h) hC rfl ?_; apply Exists.intro; refine ⟨?_, ?_⟩
              · rintro w ⟨r1, r2, r3, r4, r5, r6⟩; go_simp; try with_reducible rfl
              simp only [Act.put, List.setIfInBounds_toArray, List.set_cons_succ, List.set_cons_zero]
              refine Lim.stepR 17 (fun _ => trivial) rfl (by kernel_rfl) (fun _ _ _ _ h => h) hC rfl ?_; apply Exists.intro; refine ⟨?_, ?_⟩
              · rintro w ⟨r1, r2, r3, r4, r5, r6⟩; go_simp; try with_reducible rfl
              simp only [Act.put, List.setIfInBounds_toArray, List.set_cons_succ, List.set_cons_zero]
              refine Lim.stepR 18 (fun _ => trivial) rfl (by kernel_rfl) (fun _ _ _ _ h => h) hC rfl ?_; apply Exists.intro; refine ⟨?_, ?_⟩
              · rintro w ⟨r1, r2, r3, r4, r5, r6⟩; go_simp; try with_reducible rfl
              simp only [Act.put, List.setIfInBounds_toArray, List.set_cons_succ, List.set_cons_zero]
              refine Lim.stepR 19 (fun _ => trivial) rfl (by kernel_rfl) (fun _ _ _ _ h => h) hC rfl ?_; apply Exists.intro; refine ⟨?_, ?_⟩
              · rintro w ⟨r1, r2, r3, r4, r5, r6⟩; go_simp; try with_reducible rfl
              simp only [Act.put, List.setIfInBounds_toArray, List.set_cons_succ, List.set_cons_zero]
              refine Lim.stepR 20 (fun _ => trivial) rfl (by kernel_rfl) (fun _ _ _ _ h => h) hC rfl ?_; apply Exists.intro; refine ⟨?_, ?_⟩
              · rintro w ⟨r1, r2, r3, r4, r5, r6⟩; go_simp; try with_reducible rfl
              simp only [Act.put, List.setIfInBounds_toArray, List.set_cons_succ, List.set_cons_zero]
              refine Lim.stepR 21 (fun _ => trivial) rfl (by kernel_rfl) (fun _ _ _ _ h => h) hC rfl ?_; apply Exists.intro; refine ⟨?_, ?_⟩
              · rintro w ⟨r1, r2, r3, r4, r5, r6⟩; go_simp; try with_reducible rfl
              simp only [Act.put, List.setIfInBounds_toArray, List.set_cons_succ, List.set_cons_zero]
              refine Lim.stepR 22 (fun _ => trivial) rfl (by kernel_rfl) (fun _ _ _ _ h => h) hC rfl ?_; apply Exists.intro; refine ⟨?_, ?_⟩
              · rintro w ⟨r1, r2, r3, r4, r5, r6⟩; go_simp; try with_reducible rfl
              simp only [Act.put, List.setIfInBounds_toArray, List.set_cons_succ, List.set_cons_zero]
              refine Lim.stepR 23 (fun _ => trivial) rfl (by kernel_rfl) (fun _ _ _ _ h => h) hC rfl ?_; apply Exists.intro; refine ⟨?_, ?_⟩
              · rintro w ⟨r1, r2, r3, r4, r5, r6⟩; go_simp; try with_reducible rfl
              simp only [Act.put, List.setIfInBounds_toArray, List.set_cons_succ, List.set_cons_zero]
              refine Lim.stepR 24 (fun _ => trivial) rfl (by kernel_rfl) (fun _ _ _ _ h => h) hC rfl ?_; apply Exists.intro; refine ⟨?_, ?_⟩
              · rintro w ⟨r1, r2, r3, r4, r5, r6⟩; go_simp; try with_reducible rfl
              simp only [Act.put, List.setIfInBounds_toArray, List.set_cons_succ, List.set_cons_zero]
              refine Lim.stepR 25 (fun _ => trivial) rfl (by kernel_rfl) (fun _ _ _ _ h => h) hC rfl ?_; apply Exists.intro; refine ⟨?_, ?_⟩
              · rintro w ⟨r1, r2, r3, r4, r5, r6⟩; go_simp; try with_reducible rfl
              simp only [Act.put, List.setIfInBounds_toArray, List.set_cons_succ, List.set_cons_zero]
              refine Lim.stepS 26 (fun _ => trivial) rfl (by kernel_rfl) (fun _ _ _ _ h => h) hC rfl ?_
              simp only [Act.put, List.setIfInBounds_toArray, List.set_cons_succ, List.set_cons_zero]
              refine Lim.stepS 27 (fun _ => trivial) rfl (by kernel_rfl) (fun _ _ _ _ h => h) hC rfl ?_
              simp only [Act.put, List.setIfInBounds_toArray, List.set_cons_succ, List.set_cons_zero]
              refine Lim.stepS 28 (fun _ => trivial) rfl (by kernel_rfl) (fun _ _ _ _ h => h) hC rfl ?_
              simp only [Act.put, List.setIfInBounds_toArray, List.set_cons_succ, List.set_cons_zero]
              refine Lim.stepS 29 (fun _ => trivial) rfl (by kernel_rfl) (fun _ _ _ _ h => h) hC rfl ?_
              simp only [Act.put, List.setIfInBounds_toArray, List.set_cons_succ, List.set_cons_zero]
              refine Lim.stepS 30 (fun _ => trivial) rfl (by kernel_rfl) (fun _ _ _ _ h => h) hC rfl ?_
              simp only [Act.put, List.setIfInBounds_toArray, List.set_cons_succ, List.set_cons_zero]
              refine Lim.stepS 31 (fun _ => trivial) rfl (by kernel_rfl) (fun _ _ _ _ h => h) hC rfl ?_
              simp only [Act.put, List.setIfInBounds_toArray, List.set_cons_succ, List.set_cons_zero]
              refine Lim.stepS 32 (fun _ => trivial) rfl (by kernel_rfl) (fun _ _ _ _ h => h) hC rfl ?_
              simp only [Act.put, List.setIfInBounds_toArray, List.set_cons_succ, List.set_cons_zero]
              refine Lim.stepR 33 (fun _ => trivial) rfl (by kernel_rfl) (fun _ _ _ _ h => h) hC rfl ?_; apply Exists.intro; refine ⟨?_, ?_⟩
              · rintro w ⟨r1, r2, r3, r4, r5, r6⟩; go_simp; try with_reducible rfl
              simp only [Act.put, List.setIfInBounds_toArray, List.set_cons_succ, List.set_cons_zero]
              refine Lim.stepR 34 (fun _ => trivial) rfl (by kernel_rfl) (fun _ _ _ _ h => h) hC rfl ?_; apply Exists.intro; refine ⟨?_, ?_⟩
              · rintro w ⟨r1, r2, r3, r4, r5, r6⟩; go_simp; try with_reducible rfl
              simp only [Act.put, List.setIfInBounds_toArray, List.set_cons_succ, List.set_cons_zero]
              refine Lim.stepE 35 (fun _ => trivial) rfl (by kernel_rfl) rfl (fun K hK => ?_)   -- E store
              go_simp
              have hCN : (fun W => W.cell? ⟨w2.heap.size, k, none⟩ = some (.bool y1) ∧ W.cell? ⟨w2.heap.size + 1, k, none⟩ = some (.bool y2) ∧ W.cell? ⟨w11.heap.size, k, none⟩ = some (.int .i64 x1) ∧ W.cell? ⟨w11.heap.size + 1, k, none⟩ = some (.int .i64 x2) ∧ W.cell? ⟨w11.heap.size + 1 + 1, k, none⟩ = some (.int .i64 x3) ∧ W.cell? ⟨w11.heap.size + 1 + 1 + 1, k, none⟩ = some (.int .i64 x4)) (wr.alloc (.cells #[.bool y1, .bool y2, .bool false] 41)).drew := by
                obtain ⟨r1, r2, r3, r4, r5, r6⟩ := HCW.out
                exact ⟨cell_al _ r1, cell_al _ r2, cell_al _ r3, cell_al _ r4, cell_al _ r5, cell_al _ r6⟩
              refine hK _ _ hCN ?_
              clear hCN
              refine Lim.stepD (by kernel_rfl) ?_
              clear hC
              have O9 := Lib.hid (owns_below HO.out ((Below.refl _ wr).alloc (Nat.le_refl _) (.cells #[.bool y1, .bool y2, .bool false] 41)).drew)
              have B9 : Below w12.heap.size w12 (wr.alloc (.cells #[.bool y1, .bool y2, .bool false] 41)).drew := (hbr.alloc hsr _).drew
              have g9 : (wr.alloc (.cells #[.bool y1, .bool y2, .bool false] 41)).drew.cell? ⟨wr.heap.size, 0, none⟩ = some (.bool y1) ∧ (wr.alloc (.cells #[.bool y1, .bool y2, .bool false] 41)).drew.cell? ⟨wr.heap.size, 1, none⟩ = some (.bool y2) ∧ (wr.alloc (.cells #[.bool y1, .bool y2, .bool false] 41)).drew.cell? ⟨wr.heap.size, 2, none⟩ = some (.bool false) := ⟨cell_new wr #[.bool y1, .bool y2, .bool false] _ 0 (by simp), cell_new wr #[.bool y1, .bool y2, .bool false] _ 1 (by simp), cell_new wr #[.bool y1, .bool y2, .bool false] _ 2 (by simp)⟩
              have hs9 : wr.heap.size < (wr.alloc (.cells #[.bool y1, .bool y2, .bool false] 41)).drew.heap.size := World.block_lt_of_cell? _ _ g9.1
              obtain ⟨g1, g2, g3⟩ := g9
              generalize (wr.alloc (.cells #[.bool y1, .bool y2, .bool false] 41)).drew = w9 at O9 B9 g1 g2 g3 hs9 ⊢
              go_wp2_with (at_builtin; refine wpList_append_own _ rfl _ _ 34 rfl w12.heap.size 41 i0 (.agg #[.bool false, .bool false, .bool false]) 3 3 Try.underlying34 HI.out.1 HI.out.2.1 HI.out.2.2.1 HI.out.2.2.2 rfl (by decide) _ _ _ rfl (O9.out.alloc (.cells #[.bool y1, .bool y2, .bool false] 41)) ⟨w9.heap.size, 0, none⟩ 1 1 [.bool y1, .bool y2, .bool false] rfl rfl (cell_three_new _ rfl _ _ _ _) (by simp [Value.oneCell']) (by unfold maxLen; omega) (by omega) (by simp; omega) ?_; intro v' w13 hown3 hgrow _; have H3 := Lib.hid (And.intro hown3 hgrow); clear hown3 hgrow)
              go_roundw
              case rel =>
                refine ⟨k + 1, by omega, by go_num, ?_, ?_⟩
                · have e : sideCells ((List.range (k + 1)).map (sideOf g.ss f1 f2 a b' c d)) = sideCells ((List.range k).map (sideOf g.ss f1 f2 a b' c d)) ++ [.bool y1, .bool y2, .bool false] := by
                    rw [List.range_succ, List.map_append, List.map_singleton, sideCells_snoc, HSD.out, if_pos hz0, ha1, hc1, hd1]; rfl --]
                  rw [e]; exact H3.out.1
                · exact ((B9.alloc (by omega) _)).grown H3.out.2 (by simp; omega) (fun j e => by have := ((O9.out.alloc (.cells #[.bool y1, .bool y2, .bool false] 41))).lt j e; omega)
              case measure => simp [intOf]; omega
            | true =>
              refine Lim.regC' (fun W => W.cell? ⟨w2.heap.size, k, none⟩ = some (.bool y1) ∧ W.cell? ⟨w2.heap.size + 1, k, none⟩ = some (.bool y2) ∧ W.cell? ⟨w11.heap.size, k, none⟩ = some (.int .i64 x1) ∧ W.cell? ⟨w11.heap.size + 1, k, none⟩ = some (.int .i64 x2) ∧ W.cell? ⟨w11.heap.size + 1 + 1, k, none⟩ = some (.int .i64 x3) ∧ W.cell? ⟨w11.heap.size + 1 + 1 + 1, k, none⟩ = some (.int .i64 x4)) [] #[false, false, false, false, false, false, false, false, false, false, false, false, false, false, false, false, false, false, false, false, false, false, false, false, false, false, false, false, false, false, false, false, false, false, false, false] (by kernel_rfl) rfl ?_
              refine Lim.stepR 0 (fun _ => trivial) rfl (by kernel_rfl) (fun _ _ _ _ h => h) hC rfl ?_; apply Exists.intro; refine ⟨?_, ?_⟩
              · rintro w ⟨r1, r2, r3, r4, r5, r6⟩; go_simp; try with_reducible rfl
              simp only [Act.put, List.setIfInBounds_toArray, List.set_cons_succ, List.set_cons_zero]
              refine Lim.stepR 1 (fun _ => trivial) rfl (by kernel_rfl) (fun _ _ _ _ h => h) hC rfl ?_; apply Exists.intro; refine ⟨?_, ?_⟩
              · rintro w ⟨r1, r2, r3, r4, r5, r6⟩; go_simp; try with_reducible rfl
              simp only [Act.put, List.setIfInBounds_toArray, List.set_cons_succ, List.set_cons_zero]
              refine Lim.stepR 2 (fun _ => trivial) rfl (by kernel_rfl) (fun _ _ _ _ h => h) hC rfl ?_; apply Exists.intro; refine ⟨?_, ?_⟩
              · rintro w ⟨r1, r2, r3, r4, r5, r6⟩; go_simp; try with_reducible rfl
              simp only [Act.put, List.setIfInBounds_toArray, List.set_cons_succ, List.set_cons_zero]
              refine Lim.stepR 3 (fun _ => trivial) rfl (by kernel_rfl) (fun _ _ _ _ h => h) hC rfl ?_; apply Exists.intro; refine ⟨?_, ?_⟩
              · rintro w ⟨r1, r2, r3, r4, r5, r6⟩; go_simp; try with_reducible rfl
              simp only [Act.put, List.setIfInBounds_toArray, List.set_cons_succ, List.set_cons_zero]
              refine Lim.stepR 4 (fun _ => trivial) rfl (by kernel_rfl) (fun _ _ _ _ h => h) hC rfl ?_; apply Exists.intro; refine ⟨?_, ?_⟩
              · rintro w ⟨r1, r2, r3, r4, r5, r6⟩; go_simp; try with_reducible rfl
              simp only [Act.put, List.setIfInBounds_toArray, List.set_cons_succ, List.set_cons_zero]
              refine Lim.stepR 5 (fun _ => trivial) rfl (by kernel_rfl) (fun _ _ _ _ h => h) hC rfl ?_; apply Exists.intro; refine ⟨?_, ?_⟩
              · rintro w ⟨r1, r2, r3, r4, r5, r6⟩; go_simp; try with_reducible rfl
              simp only [Act.put, List.setIfInBounds_toArray, List.set_cons_succ, List.set_cons_zero]
              refine Lim.stepR 6 (fun _ => trivial) rfl (by kernel_rfl) (fun _ _ _ _ h => h) hC rfl ?_; apply Exists.intro; refine ⟨?_, ?_⟩
              · rintro w ⟨r1, r2, r3, r4, r5, r6⟩; go_simp; try with_reducible rfl
              simp only [Act.put, List.setIfInBounds_toArray, List.set_cons_succ, List.set_cons_zero]
              refine Lim.stepR 7 (fun _ => trivial) rfl (by kernel_rfl) (fun _ _ _ _ h => h) hC rfl ?_; apply Exists.intro; refine ⟨?_, ?_⟩
              · rintro w ⟨r1, r2, r3, r4, r5, r6⟩; go_simp; try with_reducible rfl
              simp only [Act.put, List.setIfInBounds_toArray, List.set_cons_succ, List.set_cons_zero]
              refine Lim.stepR 8 (fun _ => trivial) rfl (by kernel_rfl) (fun _ _ _ _ h => h) hC rfl ?_; apply Exists.intro; refine ⟨?_, ?_⟩
              · rintro w ⟨r1, r2, r3, r4, r5, r6⟩; go_simp; try with_reducible rfl
              simp only [Act.put, List.setIfInBounds_toArray, List.set_cons_succ, List.set_cons_zero]
              refine Lim.stepR 9 (fun _ => trivial) rfl (by kernel_rfl) (fun _ _ _ _ h => h) hC rfl ?_; apply Exists.intro; refine ⟨?_, ?_⟩
              · rintro w ⟨r1, r2, r3, r4, r5, r6⟩; go_simp; try with_reducible rfl
              simp only [Act.put, List.setIfInBounds_toArray, List.set_cons_succ, List.set_cons_zero]
              refine Lim.stepR 10 (fun _ => trivial) rfl (by kernel_rfl) (fun _ _ _ _ h => h) hC rfl ?_; apply Exists.intro; refine ⟨?_, ?_⟩
              · rintro w ⟨r1, r2, r3, r4, r5, r6⟩; go_simp; try with_reducible rfl
              simp only [Act.put, List.setIfInBounds_toArray, List.set_cons_succ, List.set_cons_zero]
              refine Lim.stepR 11 (fun _ => trivial) rfl (by kernel_rfl) (fun _ _ _ _ h => h) hC rfl ?_; apply Exists.intro; refine ⟨?_, ?_⟩
              · rintro w ⟨r1, r2, r3, r4, r5, r6⟩; go_simp; try with_reducible rfl
              simp only [Act.put, List.setIfInBounds_toArray, List.set_cons_succ, List.set_cons_zero]
              refine Lim.stepR 12 (fun _ => trivial) rfl (by kernel_rfl) (fun _ _ _ _ h => h) hC rfl ?_; apply Exists.intro; refine ⟨?_, ?_⟩
              · rintro w ⟨r1, r2, r3, r4, r5, r6⟩; go_simp; try with_reducible rfl
              simp only [Act.put, List.setIfInBounds_toArray, List.set_cons_succ, List.set_cons_zero]
              refine Lim.stepR 13 (fun _ => trivial) rfl (by kernel_rfl) (fun _ _ _ _ h => h) hC rfl ?_; apply Exists.intro; refine ⟨?_, ?_⟩
              · rintro w ⟨r1, r2, r3, r4, r5, r6⟩; go_simp; try with_reducible rfl
              simp only [Act.put, List.setIfInBounds_toArray, List.set_cons_succ, List.set_cons_zero]
              refine Lim.stepR 14 (fun _ => trivial) rfl (by kernel_rfl) (fun _ _ _ _ h => h) hC rfl ?_; apply Exists.intro; refine ⟨?_, ?_⟩
              · rintro w ⟨r1, r2, r3, r4, r5, r6⟩; go_simp; try with_reducible rfl
              simp only [Act.put, List.setIfInBounds_toArray, List.set_cons_succ, List.set_cons_zero]
              refine Lim.stepR 15 (fun _ => trivial) rfl (by kernel_rfl) (fun _ _ _ _ h => h) hC rfl ?_; apply Exists.intro; refine ⟨?_, ?_⟩
              · rintro w ⟨r1, r2, r3, r4, r5, r6⟩; go_simp; try with_reducible rfl
              simp only [Act.put, List.setIfInBounds_toArray, List.set_cons_succ, List.set_cons_zero]
              refine Lim.stepR 16 (fun _ => trivial) rfl (by kernel_rfl) (fun _ _ _ _ h => h) hC rfl ?_; apply Exists.intro; refine ⟨?_, ?_⟩
              · rintro w ⟨r1, r2, r3, r4, r5, r6⟩; go_simp; try with_reducible rfl
              simp only [Act.put, List.setIfInBounds_toArray, List.set_cons_succ, List.set_cons_zero]
              refine Lim.stepR 17 (fun _ => trivial) rfl (by kernel_rfl) (fun _ _ _ _ h => h) hC rfl ?_; apply Exists.intro; refine ⟨?_, ?_⟩
              · rintro w ⟨r1, r2, r3, r4, r5, r6⟩; go_simp; try with_reducible rfl
              simp only [Act.put, List.setIfInBounds_toArray, List.set_cons_succ, List.set_cons_zero]
              refine Lim.stepR 18 (fun _ => trivial) rfl (by kernel_rfl) (fun _ _ _ _ h => h) hC rfl ?_; apply Exists.intro; refine ⟨?_, ?_⟩
              · rintro w ⟨r1, r2, r3, r4, r5, r6⟩; go_simp; try with_reducible rfl
              simp only [Act.put, List.setIfInBounds_toArray, List.set_cons_succ, List.set_cons_zero]
              refine Lim.stepR 19 (fun _ => trivial) rfl (by kernel_rfl) (fun _ _ _ _ h => h) hC rfl ?_; apply Exists.intro; refine ⟨?_, ?_⟩
              · rintro w ⟨r1, r2, r3, r4, r5, r6⟩; go_simp; try with_reducible rfl
              simp only [Act.put, List.setIfInBounds_toArray, List.set_cons_succ, List.set_cons_zero]
              refine Lim.stepR 20 (fun _ => trivial) rfl (by kernel_rfl) (fun _ _ _ _ h => h) hC rfl ?_; apply Exists.intro; refine ⟨?_, ?_⟩
              · rintro w ⟨r1, r2, r3, r4, r5, r6⟩; go_simp; try with_reducible rfl
              simp only [Act.put, List.setIfInBounds_toArray, List.set_cons_succ, List.set_cons_zero]
              refine Lim.stepR 21 (fun _ => trivial) rfl (by kernel_rfl) (fun _ _ _ _ h => h) hC rfl ?_; apply Exists.intro; refine ⟨?_, ?_⟩
              · rintro w ⟨r1, r2, r3, r4, r5, r6⟩; go_simp; try with_reducible rfl
              simp only [Act.put, List.setIfInBounds_toArray, List.set_cons_succ, List.set_cons_zero]
              refine Lim.stepR 22 (fun _ => trivial) rfl (by kernel_rfl) (fun _ _ _ _ h => h) hC rfl ?_; apply Exists.intro; refine ⟨?_, ?_⟩
              · rintro w ⟨r1, r2, r3, r4, r5, r6⟩; go_simp; try with_reducible rfl
              simp only [Act.put, List.setIfInBounds_toArray, List.set_cons_succ, List.set_cons_zero]
              refine Lim.stepR 23 (fun _ => trivial) rfl (by kernel_rfl) (fun _ _ _ _ h => h) hC rfl ?_; apply Exists.intro; refine ⟨?_, ?_⟩
              · rintro w ⟨r1, r2, r3, r4, r5, r6⟩; go_simp; try with_reducible rfl
              simp only [Act.put, List.setIfInBounds_toArray, List.set_cons_succ, List.set_cons_zero]
              refine Lim.stepR 24 (fun _ => trivial) rfl (by kernel_rfl) (fun _ _ _ _ h => h) hC rfl ?_; apply Exists.intro; refine ⟨?_, ?_⟩
              · rintro w ⟨r1, r2, r3, r4, r5, r6⟩; go_simp; try with_reducible rfl
              simp only [Act.put, List.setIfInBounds_toArray, List.set_cons_succ, List.set_cons_zero]
              refine Lim.stepR 25 (fun _ => trivial) rfl (by kernel_rfl) (fun _ _ _ _ h => h) hC rfl ?_; apply Exists.intro; refine ⟨?_, ?_⟩
              · rintro w ⟨r1, r2, r3, r4, r5, r6⟩; go_simp; try with_reducible rfl
              simp only [Act.put, List.setIfInBounds_toArray, List.set_cons_succ, List.set_cons_zero]
              refine Lim.stepR 26 (fun _ => trivial) rfl (by kernel_rfl) (fun _ _ _ _ h => h) hC rfl ?_; apply Exists.intro; refine ⟨?_, ?_⟩
              · rintro w ⟨r1, r2, r3, r4, r5, r6⟩; go_simp; try with_reducible rfl
              simp only [Act.put, List.setIfInBounds_toArray, List.set_cons_succ, List.set_cons_zero]
              refine Lim.stepR 27 (fun _ => trivial) rfl (by kernel_rfl) (fun _ _ _ _ h => h) hC rfl ?_; apply Exists.intro; refine ⟨?_, ?_⟩
              · rintro w ⟨r1, r2, r3, r4, r5, r6⟩; go_simp; try with_reducible rfl
              simp only [Act.put, List.setIfInBounds_toArray, List.set_cons_succ, List.set_cons_zero]
              refine Lim.stepR 28 (fun _ => trivial) rfl (by kernel_rfl) (fun _ _ _ _ h => h) hC rfl ?_; apply Exists.intro; refine ⟨?_, ?_⟩
              · rintro w ⟨r1, r2, r3, r4, r5, r6⟩; go_simp; try with_reducible rfl
              simp only [Act.put, List.setIfInBounds_toArray, List.set_cons_succ, List.set_cons_zero]
              refine Lim.stepR 29 (fun _ => trivial) rfl (by kernel_rfl) (fun _ _ _ _ h => h) hC rfl ?_; apply Exists.intro; refine ⟨?_, ?_⟩
              · rintro w ⟨r1, r2, r3, r4, r5, r6⟩; go_simp; try with_reducible rfl
              simp only [Act.put, List.setIfInBounds_toArray, List.set_cons_succ, List.set_cons_zero]
              refine Lim.stepR 30 (fun _ => trivial) rfl (by kernel_rfl) (fun _ _ _ _ h => h) hC rfl ?_; apply Exists.intro; refine ⟨?_, ?_⟩
              · rintro w ⟨r1, r2, r3, r4, r5, r6⟩; go_simp; try with_reducible rfl
              simp only [Act.put, List.setIfInBounds_toArray, List.set_cons_succ, List.set_cons_zero]
              refine Lim.stepR 31 (fun _ => trivial) rfl (by kernel_rfl) (fun _ _ _ _ h => h) hC rfl ?_; apply Exists.intro; refine ⟨?_, ?_⟩
              · rintro w ⟨r1, r2, r3, r4, r5, r6⟩; go_simp; try with_reducible rfl
              simp only [Act.put, List.setIfInBounds_toArray, List.set_cons_succ, List.set_cons_zero]
              refine Lim.stepR 32 (fun _ => trivial) rfl (by kernel_rfl) (fun _ _ _ _ h => h) hC rfl ?_; apply Exists.intro; refine ⟨?_, ?_⟩
              · rintro w ⟨r1, r2, r3, r4, r5, r6⟩; go_simp; try with_reducible rfl
              simp only [Act.put, List.setIfInBounds_toArray, List.set_cons_succ, List.set_cons_zero]
              refine Lim.stepR 33 (fun _ => trivial) rfl (by kernel_rfl) (fun _ _ _ _ h => h) hC rfl ?_; apply Exists.intro; refine ⟨?_, ?_⟩
              · rintro w ⟨r1, r2, r3, r4, r5, r6⟩; go_simp; try with_reducible rfl
              simp only [Act.put, List.setIfInBounds_toArray, List.set_cons_succ, List.set_cons_zero]
              refine Lim.stepR 34 (fun _ => trivial) rfl (by kernel_rfl) (fun _ _ _ _ h => h) hC rfl ?_; apply Exists.intro; refine ⟨?_, ?_⟩
              · rintro w ⟨r1, r2, r3, r4, r5, r6⟩; go_simp; try with_reducible rfl
              simp only [Act.put, List.setIfInBounds_toArray, List.set_cons_succ, List.set_cons_zero]
              refine Lim.stepE 35 (fun _ => trivial) rfl (by kernel_rfl) rfl (fun K hK => ?_)   -- E store
              go_simp
              have hCN : (fun W => W.cell? ⟨w2.heap.size, k, none⟩ = some (.bool y1) ∧ W.cell? ⟨w2.heap.size + 1, k, none⟩ = some (.bool y2) ∧ W.cell? ⟨w11.heap.size, k, none⟩ = some (.int .i64 x1) ∧ W.cell? ⟨w11.heap.size + 1, k, none⟩ = some (.int .i64 x2) ∧ W.cell? ⟨w11.heap.size + 1 + 1, k, none⟩ = some (.int .i64 x3) ∧ W.cell? ⟨w11.heap.size + 1 + 1 + 1, k, none⟩ = some (.int .i64 x4)) (wr.alloc (.cells #[.bool y1, .bool y2, .bool (decide (x3 ≤ x2))] 41)).drew := by
                obtain ⟨r1, r2, r3, r4, r5, r6⟩ := HCW.out
                exact ⟨cell_al _ r1, cell_al _ r2, cell_al _ r3, cell_al _ r4, cell_al _ r5, cell_al _ r6⟩
              refine hK _ _ hCN ?_
              clear hCN
              refine Lim.stepD (by kernel_rfl) ?_
              clear hC
              have O9 := Lib.hid (owns_below HO.out ((Below.refl _ wr).alloc (Nat.le_refl _) (.cells #[.bool y1, .bool y2, .bool (decide (x3 ≤ x2))] 41)).drew)
              have B9 : Below w12.heap.size w12 (wr.alloc (.cells #[.bool y1, .bool y2, .bool (decide (x3 ≤ x2))] 41)).drew := (hbr.alloc hsr _).drew
              have g9 : (wr.alloc (.cells #[.bool y1, .bool y2, .bool (decide (x3 ≤ x2))] 41)).drew.cell? ⟨wr.heap.size, 0, none⟩ = some (.bool y1) ∧ (wr.alloc (.cells #[.bool y1, .bool y2, .bool (decide (x3 ≤ x2))] 41)).drew.cell? ⟨wr.heap.size, 1, none⟩ = some (.bool y2) ∧ (wr.alloc (.cells #[.bool y1, .bool y2, .bool (decide (x3 ≤ x2))] 41)).drew.cell? ⟨wr.heap.size, 2, none⟩ = some (.bool (decide (x3 ≤ x2))) := ⟨cell_new wr #[.bool y1, .bool y2, .bool (decide (x3 ≤ x2))] _ 0 (by simp), cell_new wr #[.bool y1, .bool y2, .bool (decide (x3 ≤ x2))] _ 1 (by simp), cell_new wr #[.bool y1, .bool y2, .bool (decide (x3 ≤ x2))] _ 2 (by simp)⟩
              have hs9 : wr.heap.size < (wr.alloc (.cells #[.bool y1, .bool y2, .bool (decide (x3 ≤ x2))] 41)).drew.heap.size := World.block_lt_of_cell? _ _ g9.1
              obtain ⟨g1, g2, g3⟩ := g9
              generalize (wr.alloc (.cells #[.bool y1, .bool y2, .bool (decide (x3 ≤ x2))] 41)).drew = w9 at O9 B9 g1 g2 g3 hs9 ⊢
              go_wp2_with (at_builtin; refine wpList_append_own _ rfl _ _ 34 rfl w12.heap.size 41 i0 (.agg #[.bool false, .bool false, .bool false]) 3 3 Try.underlying34 HI.out.1 HI.out.2.1 HI.out.2.2.1 HI.out.2.2.2 rfl (by decide) _ _ _ rfl (O9.out.alloc (.cells #[.bool y1, .bool y2, .bool (decide (x3 ≤ x2))] 41)) ⟨w9.heap.size, 0, none⟩ 1 1 [.bool y1, .bool y2, .bool (decide (x3 ≤ x2))] rfl rfl (cell_three_new _ rfl _ _ _ _) (by simp [Value.oneCell']) (by unfold maxLen; omega) (by omega) (by simp; omega) ?_; intro v' w13 hown3 hgrow _; have H3 := Lib.hid (And.intro hown3 hgrow); clear hown3 hgrow)
              go_roundw
              case rel =>
                refine ⟨k + 1, by omega, by go_num, ?_, ?_⟩
                · have e : sideCells ((List.range (k + 1)).map (sideOf g.ss f1 f2 a b' c d)) = sideCells ((List.range k).map (sideOf g.ss f1 f2 a b' c d)) ++ [.bool y1, .bool y2, .bool (decide (x3 ≤ x2))] := by
                    rw [List.range_succ, List.map_append, List.map_singleton, sideCells_snoc, HSD.out, if_pos hz0, ha1, hc1, hd1]; rfl --]
                  rw [e]; exact H3.out.1
                · exact ((B9.alloc (by omega) _)).grown H3.out.2 (by simp; omega) (fun j e => by have := ((O9.out.alloc (.cells #[.bool y1, .bool y2, .bool (decide (x3 ≤ x2))] 41))).lt j e; omega)
              case measure => simp [intOf]; omega
      · have hz1 : (z == 0) = false := by simpa using hz0
        go_wp2_with (at_builtin; refine wpList_append_own _ rfl _ _ 34 rfl w12.heap.size 41 i0 (.agg #[.bool false, .bool false, .bool false]) 3 3 Try.underlying34 HI.out.1 HI.out.2.1 HI.out.2.2.1 HI.out.2.2.2 rfl (by decide) _ _ _ rfl ((HO.out.alloc (.cells #[.bool (z == 1), .bool (z == 2), .bool false] 41)).alloc (.cells #[.bool (z == 1), .bool (z == 2), .bool false] 41)) ⟨wr.heap.size + 1, 0, none⟩ 1 1 [.bool (z == 1), .bool (z == 2), .bool false] rfl rfl (cell_three_new _ (by simp) _ _ _ _) (by simp [Value.oneCell']) (by unfold maxLen; omega) (by omega) (by simp; omega) ?_; intro v' w13 hown3 hgrow _; have H3 := Lib.hid (And.intro hown3 hgrow); clear hown3 hgrow)
        go_roundw
        case rel =>
          refine ⟨k + 1, by omega, by go_num, ?_, ?_⟩
          · have e : sideCells ((List.range (k + 1)).map (sideOf g.ss f1 f2 a b' c d)) = sideCells ((List.range k).map (sideOf g.ss f1 f2 a b' c d)) ++ [.bool (z == 1), .bool (z == 2), .bool false] := by
              rw [List.range_succ, List.map_append, List.map_singleton, sideCells_snoc, HSD.out, if_neg hz0]
            rw [e]; exact H3.out.1
          · exact (((hbr.alloc hsr _).alloc (by simp; omega) _)).grown H3.out.2 (by simp; omega) (fun j e => by have := (((HO.out.alloc (.cells #[.bool (z == 1), .bool (z == 2), .bool false] 41)).alloc (.cells #[.bool (z == 1), .bool (z == 2), .bool false] 41))).lt j e; omega)
        case measure => simp [intOf]; omega
    · obtain rfl : k = g.ss.length := by omega
      go_wp2
      go_ret
      refine ⟨_, (List.range g.n).map (sideOf g.ss f1 f2 a b' c d), rfl, ⟨f1, f2, a, b', c, d, HF1.out.1, HF2.out.1, HPa.out, HPb.out, HPc.out, HPd.out, rfl⟩, ?_, grown_but HF2.out.2 (grown_of_below (HH12.out.trans (hbr.mono hs12))) (fun r e => by cases e)⟩
      have := HF2.out.2.size
      rw [List.length_map, List.length_range]
      exact owns_mono hown (by omega)
end Go.Proofs.Ytdgibmgifgdpbaa
/-
  The contracts of ridge's functions Sides and Doubt.
-/
namespace Go.Proofs.Ytdgibmgifgdpbaa
open Go.RowKit Go.Shelf
open Lim

/-- what Sides answers -/
def SidesAns (wd : Int) (hs : List (Int × Int)) (ss : List Int) (er : Int) (l : List (Bool × Bool × Bool)) : Prop :=
  (openErr wd hs ss ≠ 0 ∧ er = openErr wd hs ss ∧ l = []) ∨ (openErr wd hs ss = 0 ∧ er = 0 ∧ SidesG ⟨wd.toNat, hs, ss⟩ l)

set_option maxHeartbeats 1000000 in
theorem Sides_any {B : Nat} {wd : Int} {hv sv : Value} {hs : List (Int × Int)} {ss : List Int} {w : World} (hB : B ≤ w.heap.size) (hh : RS B w hv hs.length (spans hs)) (hss : RS B w sv ss.length (ints ss)) :
    Calls Try.prog 19 #[.agg #[.int .i64 wd, hv, sv]] w fun e w' => ∃ v er l, e = .returned (.tuple #[v, .int .i64 er]) ∧ Below w.heap.size w w' ∧ SidesAns wd hs ss er l ∧ w'.ownsRow w.heap.size 41 3 v l.length (sideCells l) := by
  have B1 : Below w.heap.size w (w.alloc (.cells #[.int .i64 wd, hv, sv] 25)) := (Below.refl _ w).alloc (Nat.le_refl _) _
  have CO := Lib.hid (opened_any (B := B) (wd := wd) (by simp; omega) (hh.below (B1.mono hB)) (hss.below (B1.mono hB)))
  obtain ⟨ha, hcap, rfl, -⟩ := hh
  obtain ⟨sa, scap, rfl, -⟩ := hss
  go_enter Try.func19, Try.ntmps19
  go_wp2_with fail
  refine CO.out.mono ?_
  rintro e w1 ⟨hb, hcase⟩
  have BR : Below w.heap.size w w1 := B1.trans (hb.mono (by simp))
  have hqs : w.heap.size + 1 ≤ w1.heap.size := by have := hb.size; simpa using this
  clear hb CO B1
  rcases hcase with ⟨he, q, rfl, hq, HW, HM⟩ | ⟨he, rfl⟩
  · have hq : w.heap.size + 1 ≤ q := by simpa using hq
    have CS := Lib.hid (sides_any (openErr_ok he) (openErr_zero he).2.2.1 (by omega) HW HM)
    have HE := Lib.hid he
    clear he HW HM
    go_wp2_with fail
    refine CS.out.mono ?_
    rintro e w2 ⟨v, l, rfl, hl, hown, hgr⟩
    have HR := Lib.hid (And.intro hl (And.intro hown hgr))
    clear hl hown hgr CS
    go_wp2
    go_ret2
    exact ⟨v, 0, l, rfl, below_grown BR HR.out.2.2 (by omega) (fun r e => by cases e; omega), .inr ⟨HE.out, rfl, HR.out.1⟩, owns_mono HR.out.2.1 (by omega)⟩
  · have he1 : (openErr wd hs ss == 0) = false := by simpa using he
    have HE := Lib.hid he
    clear he
    go_wp2
    go_ret2
    exact ⟨_, _, [], rfl, BR, .inl ⟨HE.out, rfl, rfl⟩, World.ownsRow_nil _ _ _ _⟩

/-- whether a side is in doubt -/
def doubtB (s : Bool × Bool × Bool) : Bool := s.1 && s.2.1 || s.1 && s.2.2 || s.2.1 && s.2.2
/-- the cells in doubt among the first k -/
def doubtTo (l : List (Bool × Bool × Bool)) (k : Nat) : List Nat := (List.range k).filter fun c => doubtB (l.getD c (false, false, false))
theorem doubtTo_succ (l : List (Bool × Bool × Bool)) (k : Nat) : doubtTo l (k + 1) = if doubtB (l.getD k (false, false, false)) = true then doubtTo l k ++ [k] else doubtTo l k := by
  unfold doubtTo
  rw [List.range_succ, List.filter_append, List.filter_cons, List.filter_nil]
  split
  · rename_i h; simp only [h, if_true]
  · rename_i h; simp only [h, if_false, List.append_nil]
theorem doubtTo_len (l : List (Bool × Bool × Bool)) (k : Nat) : (doubtTo l k).length ≤ k := Nat.le_trans (List.length_filter_le _ _) (by simp)
def DoubtAns (wd : Int) (hs : List (Int × Int)) (ss : List Int) (er : Int) (L : List Nat) : Prop :=
  (openErr wd hs ss ≠ 0 ∧ er = openErr wd hs ss ∧ L = []) ∨ (openErr wd hs ss = 0 ∧ er = 0 ∧ ∃ l, SidesG ⟨wd.toNat, hs, ss⟩ l ∧ L = doubtTo l l.length)
theorem sideCells_at (l : List (Bool × Bool × Bool)) : ∀ (k : Nat), k < l.length → (sideCells l)[k * 3]? = some (.bool (l.getD k (false, false, false)).1) ∧ (sideCells l)[k * 3 + 1]? = some (.bool (l.getD k (false, false, false)).2.1) ∧ (sideCells l)[k * 3 + 2]? = some (.bool (l.getD k (false, false, false)).2.2) := by
  induction l with
  | nil => intro k h; simp at h
  | cons s l ih =>
    intro k h
    have e : sideCells (s :: l) = .bool s.1 :: .bool s.2.1 :: .bool s.2.2 :: sideCells l := by simp [sideCells]
    rw [e]
    cases k with
    | zero => simp
    | succ k =>
      have := ih k (by simpa using h)
      rw [show (k + 1) * 3 = k * 3 + 1 + 1 + 1 from by omega, show k * 3 + 1 + 1 + 1 + 1 = k * 3 + 1 + 1 + 1 + 1 from rfl, show k * 3 + 1 + 1 + 1 + 2 = k * 3 + 2 + 1 + 1 + 1 from by omega]
      simpa using this
theorem SidesG.len {g : Gd} {l : List (Bool × Bool × Bool)} (h : SidesG g l) : l.length = g.n := by
  obtain ⟨_, _, _, _, _, _, _, _, _, _, _, _, rfl⟩ := h
  simp

set_option maxRecDepth 20000 in
set_option maxHeartbeats 2000000 in
theorem Doubt_any {B : Nat} {wd : Int} {hv sv : Value} {hs : List (Int × Int)} {ss : List Int} {w : World} (hB : B ≤ w.heap.size) (hh : RS B w hv hs.length (spans hs)) (hss : RS B w sv ss.length (ints ss)) :
    Calls Try.prog 21 #[.agg #[.int .i64 wd, hv, sv]] w fun e w' => ∃ v er L, e = .returned (.tuple #[v, .int .i64 er]) ∧ Below w.heap.size w w' ∧ DoubtAns wd hs ss er L ∧ w'.ownsRow w.heap.size 3 1 v L.length (ints (L.map Int.ofNat)) := by
  have B1 : Below w.heap.size w (w.alloc (.cells #[.int .i64 wd, hv, sv] 25)) := (Below.refl _ w).alloc (Nat.le_refl _) _
  have CO := Lib.hid (opened_any (B := B) (wd := wd) (by simp; omega) (hh.below (B1.mono hB)) (hss.below (B1.mono hB)))
  obtain ⟨ha, hcap, rfl, -⟩ := hh
  obtain ⟨sa, scap, rfl, -⟩ := hss
  go_enter Try.func21, Try.ntmps21
  go_wp2_with fail
  refine CO.out.mono ?_
  rintro e w1 ⟨hb, hcase⟩
  have BR : Below w.heap.size w w1 := B1.trans (hb.mono (by simp))
  have hqs : w.heap.size + 1 ≤ w1.heap.size := by have := hb.size; simpa using this
  clear hb CO B1
  rcases hcase with ⟨he, q, rfl, hq, HW, HM⟩ | ⟨he, rfl⟩
  · have hq : w.heap.size + 1 ≤ q := by simpa using hq
    have CS := Lib.hid (sides_any (openErr_ok he) (openErr_zero he).2.2.1 (by omega) HW HM)
    have HE := Lib.hid he
    have HOK := Lib.hid (openErr_ok he)
    clear he HW HM
    go_wp2_with fail
    refine CS.out.mono ?_
    rintro e w2 ⟨v2, l, rfl, hl, hown, hgr⟩
    have hll : l.length ≤ 100 := by have h1 := hl.len; have h2 : ss.length ≤ 100 := HOK.out.n1; have h3 : l.length = ss.length := h1; omega
    have HR := Lib.hid (And.intro hl (below_grown BR hgr (by omega) (fun r e => by cases e; omega)))
    obtain ⟨a2, cap2, rfl, hrs⟩ := RS.of_owns hown
    have HRS := Lib.hid hrs
    have hs2 : w.heap.size ≤ w2.heap.size := HR.out.2.size
    clear hl hown hgr CS hrs
    go_wp2_with fail
    obtain ⟨i0, hi, hz0, hz1, hz2⟩ := info_parts Try.infoInt
    have HI := Lib.hid (And.intro hi (And.intro hz0 (And.intro hz1 hz2)))
    clear hi hz0 hz1 hz2
    go_loopw [6, 20] (fun v i wr => ∃ k : Nat, k ≤ l.length ∧ i = .int .i64 k ∧ wr.ownsRow w2.heap.size 3 1 v (doubtTo l k).length (ints ((doubtTo l k).map Int.ofNat)) ∧ Below w2.heap.size w2 wr) (fun _ i _ => l.length - (intOf i).toNat)
    case atStart => exact ⟨0, Nat.zero_le _, rfl, World.ownsRow_nil _ _ _ _, Below.refl _ _⟩
    case round =>
      obtain ⟨k, hk, rfl, hown, hbr⟩ := hrel
      have hsr := hbr.size
      by_cases hlt : k < l.length
      · obtain ⟨sb, soff, rfl, hsb, hsc⟩ := HRS.out (by intro h; have := sideCells_length l; rw [h] at this; simp at this; omega)
        obtain ⟨x, hx⟩ : ∃ x, x = l.getD k (false, false, false) := ⟨_, rfl⟩
        obtain ⟨s1, s2, s3⟩ := x
        have q1 : wr.cell? ⟨sb, soff + k * 3, none⟩ = some (.bool s1) := by have := (sideCells_at l k hlt).1; rw [← hx] at this; exact cell_below hbr (hsc _ _ this) (by dsimp only; omega)
        have q2 : wr.cell? ⟨sb, soff + k * 3 + 1, none⟩ = some (.bool s2) := by have := (sideCells_at l k hlt).2.1; rw [← hx] at this; exact cell_below hbr (hsc _ _ this) (by dsimp only; omega)
        have q3 : wr.cell? ⟨sb, soff + k * 3 + 2, none⟩ = some (.bool s3) := by have := (sideCells_at l k hlt).2.2; rw [← hx] at this; exact cell_below hbr (hsc _ _ this) (by dsimp only; omega)
        have HX := Lib.hid hx
        have HO := Lib.hid hown
        have hk1 : (k : Int) < 100 := by omega
        have HLen : Hid ((doubtTo l k).length ≤ 100) := Lib.hid (Nat.le_trans (doubtTo_len _ _) (by omega))
        clear hx hown hsc
        have fin0 : doubtB (s1, s2, s3) = false → (wr.alloc (.cells #[.bool s1, .bool s2, .bool s3] 41)).ownsRow w2.heap.size 3 1 u6 (doubtTo l (k + 1)).length (ints ((doubtTo l (k + 1)).map Int.ofNat)) ∧ Below w2.heap.size w2 (wr.alloc (.cells #[.bool s1, .bool s2, .bool s3] 41)) := by
          intro hd
          rw [doubtTo_succ, ← HX.out, hd, if_neg (by decide)]
          exact ⟨HO.out.alloc _, hbr.alloc hsr _⟩
        have fin1 : doubtB (s1, s2, s3) = true → ∀ v' w3, w3.ownsRow w2.heap.size 3 1 v' ((doubtTo l k).length + 1) (ints ((doubtTo l k).map Int.ofNat) ++ [.int .i64 k]) → ((wr.alloc (.cells #[.bool s1, .bool s2, .bool s3] 41)).alloc (.cells #[.int .i64 k] 3)).grownBy w3 u6.ownBlock →
            w3.ownsRow w2.heap.size 3 1 v' (doubtTo l (k + 1)).length (ints ((doubtTo l (k + 1)).map Int.ofNat)) ∧ Below w2.heap.size w2 w3 := by
          intro hd v' w3 h1 h2
          rw [doubtTo_succ, ← HX.out, hd, if_pos rfl]
          exact ⟨by simpa [ints] using h1, ((hbr.alloc hsr _).alloc (by simp; omega) _).grown h2 (by simp; omega) (fun j e => by have := HO.out.lt j e; omega)⟩
        have F0 := Lib.hid fin0
        have F1 := Lib.hid fin1
        clear fin0 fin1
        cases s1 <;> cases s2 <;> cases s3
        · go_wp2
          go_roundw
          case rel => exact ⟨k + 1, by omega, by go_num, F0.out rfl⟩
          case measure => simp [intOf]; omega
        · go_wp2
          go_roundw
          case rel => exact ⟨k + 1, by omega, by go_num, F0.out rfl⟩
          case measure => simp [intOf]; omega
        · go_wp2
          go_roundw
          case rel => exact ⟨k + 1, by omega, by go_num, F0.out rfl⟩
          case measure => simp [intOf]; omega
        · go_wp2_with (at_builtin; refine wpList_append_own _ rfl _ _ 23 rfl w2.heap.size 3 i0 (.int .i64 0) 1 8 Try.underlying23 HI.out.1 HI.out.2.1 HI.out.2.2.1 HI.out.2.2.2 rfl (by decide) _ _ _ rfl ((HO.out.alloc _).alloc _) ⟨wr.heap.size + 1, 0, none⟩ 1 1 [.int .i64 k] rfl rfl (by have h := cell_one_new (wr.alloc (.cells #[.bool false, .bool true, .bool true] 41)) (.int .i64 k) 3; rw [World.size_alloc] at h; exact h) (by simp [Value.oneCell']) (by have := HLen.out; unfold maxLen; omega) (by have := HLen.out; omega) (by simp; omega) ?_; intro v' w11 hown3 hgrow _; have H3 := Lib.hid (F1.out rfl v' w11 hown3 hgrow); clear hown3 hgrow)
          go_roundw
          case rel => exact ⟨k + 1, by omega, by go_num, H3.out⟩
          case measure => simp [intOf]; omega
        · go_wp2
          go_roundw
          case rel => exact ⟨k + 1, by omega, by go_num, F0.out rfl⟩
          case measure => simp [intOf]; omega
        · go_wp2_with (at_builtin; refine wpList_append_own _ rfl _ _ 23 rfl w2.heap.size 3 i0 (.int .i64 0) 1 8 Try.underlying23 HI.out.1 HI.out.2.1 HI.out.2.2.1 HI.out.2.2.2 rfl (by decide) _ _ _ rfl ((HO.out.alloc _).alloc _) ⟨wr.heap.size + 1, 0, none⟩ 1 1 [.int .i64 k] rfl rfl (by have h := cell_one_new (wr.alloc (.cells #[.bool true, .bool false, .bool true] 41)) (.int .i64 k) 3; rw [World.size_alloc] at h; exact h) (by simp [Value.oneCell']) (by have := HLen.out; unfold maxLen; omega) (by have := HLen.out; omega) (by simp; omega) ?_; intro v' w11 hown3 hgrow _; have H3 := Lib.hid (F1.out rfl v' w11 hown3 hgrow); clear hown3 hgrow)
          go_roundw
          case rel => exact ⟨k + 1, by omega, by go_num, H3.out⟩
          case measure => simp [intOf]; omega
        · go_wp2_with (at_builtin; refine wpList_append_own _ rfl _ _ 23 rfl w2.heap.size 3 i0 (.int .i64 0) 1 8 Try.underlying23 HI.out.1 HI.out.2.1 HI.out.2.2.1 HI.out.2.2.2 rfl (by decide) _ _ _ rfl ((HO.out.alloc _).alloc _) ⟨wr.heap.size + 1, 0, none⟩ 1 1 [.int .i64 k] rfl rfl (by have h := cell_one_new (wr.alloc (.cells #[.bool true, .bool true, .bool false] 41)) (.int .i64 k) 3; rw [World.size_alloc] at h; exact h) (by simp [Value.oneCell']) (by have := HLen.out; unfold maxLen; omega) (by have := HLen.out; omega) (by simp; omega) ?_; intro v' w11 hown3 hgrow _; have H3 := Lib.hid (F1.out rfl v' w11 hown3 hgrow); clear hown3 hgrow)
          go_roundw
          case rel => exact ⟨k + 1, by omega, by go_num, H3.out⟩
          case measure => simp [intOf]; omega
        · go_wp2_with (at_builtin; refine wpList_append_own _ rfl _ _ 23 rfl w2.heap.size 3 i0 (.int .i64 0) 1 8 Try.underlying23 HI.out.1 HI.out.2.1 HI.out.2.2.1 HI.out.2.2.2 rfl (by decide) _ _ _ rfl ((HO.out.alloc _).alloc _) ⟨wr.heap.size + 1, 0, none⟩ 1 1 [.int .i64 k] rfl rfl (by have h := cell_one_new (wr.alloc (.cells #[.bool true, .bool true, .bool true] 41)) (.int .i64 k) 3; rw [World.size_alloc] at h; exact h) (by simp [Value.oneCell']) (by have := HLen.out; unfold maxLen; omega) (by have := HLen.out; omega) (by simp; omega) ?_; intro v' w11 hown3 hgrow _; have H3 := Lib.hid (F1.out rfl v' w11 hown3 hgrow); clear hown3 hgrow)
          go_roundw
          case rel => exact ⟨k + 1, by omega, by go_num, H3.out⟩
          case measure => simp [intOf]; omega
      · obtain rfl : k = l.length := by omega
        go_wp2
        go_ret2
        exact ⟨_, 0, doubtTo l l.length, rfl, HR.out.2.trans (hbr.mono hs2), .inr ⟨HE.out, rfl, l, HR.out.1, rfl⟩, owns_mono hown hs2⟩
  · have he1 : (openErr wd hs ss == 0) = false := by simpa using he
    have HE := Lib.hid he
    clear he
    go_wp2
    go_ret2
    exact ⟨_, _, [], rfl, BR, .inl ⟨HE.out, rfl, rfl⟩, World.ownsRow_nil _ _ _ _⟩
end Go.Proofs.Ytdgibmgifgdpbaa
/-
  Whether cells are a ridge: the contract of ridge's function Parts.
-/
namespace Go.Proofs.Ytdgibmgifgdpbaa
open Go.RowKit Go.Shelf
open Lim

set_option maxRecDepth 20000 in
set_option maxHeartbeats 400000 in
theorem partsb_any {B bg bx k : Nat} {hv : Value} {hs : List (Int × Int)} {h : Int} {w : World} (hk : k < hs.length) (hh : RS B w hv hs.length (spans hs)) (h0 : w.cell? ⟨bg, 1, none⟩ = some hv) (h1 : w.cell? ⟨bx, 0, none⟩ = some (.int .i64 h)) :
    Calls Try.prog 86 #[.int .i64 k, .pointer (some ⟨bg, 0, none⟩), .pointer (some ⟨bx, 0, none⟩)] w fun e w' => e = .returned (.bool (decide ((hs.getD k (0, 0)).1 < h))) ∧ Below w.heap.size w w' := by
  obtain ⟨ha, hcap, rfl, hc⟩ := hh
  obtain ⟨hb, hoff, rfl, hhb, hcell⟩ := hc (spans_ne (by omega))
  obtain ⟨lo, hlo⟩ : ∃ lo, lo = (hs.getD k (0, 0)).1 := ⟨_, rfl⟩
  have q1 : w.cell? ⟨hb, hoff + k * 2, none⟩ = some (.int .i64 lo) := by rw [hlo, List.getD_eq_getElem?_getD, List.getElem?_eq_getElem hk]; exact hcell _ _ (spans_lo _ k hk)
  rw [← hlo]
  clear hc hcell hlo
  go_enter Try.func86, Try.ntmps86
  go_wp2_with fail
  have hC : (fun W => W.cell? ⟨bg, 1, none⟩ = some (.slice (some ⟨hb, hoff, none⟩) hs.length hcap) ∧ W.cell? ⟨hb, hoff + k * 2, none⟩ = some (.int .i64 lo) ∧ W.cell? ⟨bx, 0, none⟩ = some (.int .i64 h)) w.drew := ⟨h0, q1, h1⟩
  refine Lim.regC' (fun W => W.cell? ⟨bg, 1, none⟩ = some (.slice (some ⟨hb, hoff, none⟩) hs.length hcap) ∧ W.cell? ⟨hb, hoff + k * 2, none⟩ = some (.int .i64 lo) ∧ W.cell? ⟨bx, 0, none⟩ = some (.int .i64 h)) [] #[false, false, false, false, false, false, false, false, false] (by kernel_rfl) rfl ?_
  refine Lim.stepR 0 (fun _ => trivial) rfl (by kernel_rfl) (fun _ _ _ _ h => h) hC rfl ?_; apply Exists.intro; refine ⟨?_, ?_⟩
  · rintro w ⟨r1, r2, r3⟩; go_simp; try with_reducible rfl
  simp only [Act.put, List.setIfInBounds_toArray, List.set_cons_succ, List.set_cons_zero]
  refine Lim.stepR 1 (fun _ => trivial) rfl (by kernel_rfl) (fun _ _ _ _ h => h) hC rfl ?_; apply Exists.intro; refine ⟨?_, ?_⟩
  · rintro w ⟨r1, r2, r3⟩; go_simp; try with_reducible rfl
  simp only [Act.put, List.setIfInBounds_toArray, List.set_cons_succ, List.set_cons_zero]
  refine Lim.stepR 2 (fun _ => trivial) rfl (by kernel_rfl) (fun _ _ _ _ h => h) hC rfl ?_; apply Exists.intro; refine ⟨?_, ?_⟩
  · rintro w ⟨r1, r2, r3⟩; go_simp; try with_reducible rfl
  simp only [Act.put, List.setIfInBounds_toArray, List.set_cons_succ, List.set_cons_zero]
  refine Lim.stepR 3 (fun _ => trivial) rfl (by kernel_rfl) (fun _ _ _ _ h => h) hC rfl ?_; apply Exists.intro; refine ⟨?_, ?_⟩
  · rintro w ⟨r1, r2, r3⟩; go_simp; try with_reducible rfl
  simp only [Act.put, List.setIfInBounds_toArray, List.set_cons_succ, List.set_cons_zero]
  refine Lim.stepR 4 (fun _ => trivial) rfl (by kernel_rfl) (fun _ _ _ _ h => h) hC rfl ?_; apply Exists.intro; refine ⟨?_, ?_⟩
  · rintro w ⟨r1, r2, r3⟩; go_simp; try with_reducible rfl
  simp only [Act.put, List.setIfInBounds_toArray, List.set_cons_succ, List.set_cons_zero]
  refine Lim.stepR 5 (fun _ => trivial) rfl (by kernel_rfl) (fun _ _ _ _ h => h) hC rfl ?_; apply Exists.intro; refine ⟨?_, ?_⟩
  · rintro w ⟨r1, r2, r3⟩; go_simp; try with_reducible rfl
  simp only [Act.put, List.setIfInBounds_toArray, List.set_cons_succ, List.set_cons_zero]
  refine Lim.stepR 6 (fun _ => trivial) rfl (by kernel_rfl) (fun _ _ _ _ h => h) hC rfl ?_; apply Exists.intro; refine ⟨?_, ?_⟩
  · rintro w ⟨r1, r2, r3⟩; go_simp; try with_reducible rfl
  simp only [Act.put, List.setIfInBounds_toArray, List.set_cons_succ, List.set_cons_zero]
  refine Lim.stepR 7 (fun _ => trivial) rfl (by kernel_rfl) (fun _ _ _ _ h => h) hC rfl ?_; apply Exists.intro; refine ⟨?_, ?_⟩
  · rintro w ⟨r1, r2, r3⟩; go_simp; try with_reducible rfl
  simp only [Act.put, List.setIfInBounds_toArray, List.set_cons_succ, List.set_cons_zero]
  refine Lim.stepR 8 (fun _ => trivial) rfl (by kernel_rfl) (fun _ _ _ _ h => h) hC rfl ?_; apply Exists.intro; refine ⟨?_, ?_⟩
  · rintro w ⟨r1, r2, r3⟩; go_simp; try with_reducible rfl
  simp only [Act.put, List.setIfInBounds_toArray, List.set_cons_succ, List.set_cons_zero]
  refine Lim.stepD (by kernel_rfl) ?_
  clear hC
  go_wp2
  go_ret
  exact ⟨rfl, (Below.refl _ w).drew⟩

/-- whether numbers rise -/
def rising (xs : List Int) : Prop := ∀ j, 1 ≤ j → j < xs.length → xs.getD (j - 1) 0 < xs.getD j 0
/-- what Parts answers -/
def PartAns (wd : Int) (hs : List (Int × Int)) (ss xs : List Int) (h : Int) (d : Bool) (er : Int) : Prop :=
  (landErr wd hs ss xs ≠ 0 ∧ d = false ∧ er = landErr wd hs ss xs) ∨ (landErr wd hs ss xs = 0 ∧ ¬ rising xs ∧ d = false ∧ er = 5) ∨ (landErr wd hs ss xs = 0 ∧ rising xs ∧ inB h 0 10000 = false ∧ d = false ∧ er = 4) ∨
  (landErr wd hs ss xs = 0 ∧ rising xs ∧ inB h 0 10000 = true ∧ er = 0 ∧ (d = true ↔ (∀ c ∈ xs, h ≤ (hs.getD c.toNat (0, 0)).1) ∧ PartsG ⟨wd.toNat, hs, ss⟩ xs))
theorem landErr_good {wd : Int} {hs : List (Int × Int)} {ss xs : List Int} (h : landErr wd hs ss xs = 0) : openErr wd hs ss = 0 ∧ ∀ x ∈ xs, offLand hs ss x = false := by
  unfold landErr at h
  split at h
  · exact absurd h (by assumption)
  · rename_i h1
    have h1 : openErr wd hs ss = 0 := by omega
    split at h
    · cases h
    · rename_i h2
      exact ⟨h1, fun x hx => by
        cases e : offLand hs ss x with
        | false => rfl
        | true => exact absurd (List.any_eq_true.2 ⟨x, hx, e⟩) h2⟩

theorem app_calls {P : Program} {f : Nat} {x a b : Value} {w : World} {R : Ending → World → Prop} (h : Calls P f #[x, a, b] w R) : Calls P f (#[x] ++ #[a, b]) w R := by
  have e : (#[x] ++ #[a, b] : Array Value) = #[x, a, b] := by simp
  rw [e]; exact h

set_option maxRecDepth 100000 in
set_option maxHeartbeats 2000000 in
theorem Parts_any {B : Nat} {wd h : Int} {hv sv cv : Value} {hs : List (Int × Int)} {ss xs : List Int} {w : World} (hn : xs.length ≤ 100000) (hB : B ≤ w.heap.size) (hh : RS B w hv hs.length (spans hs)) (hss : RS B w sv ss.length (ints ss)) (hxs : RS B w cv xs.length (ints xs)) :
    Calls Try.prog 47 #[.agg #[.int .i64 wd, hv, sv], cv, .int .i64 h] w fun e w' => ∃ d er, e = .returned (.tuple #[.bool d, .int .i64 er]) ∧ Below w.heap.size w w' ∧ PartAns wd hs ss xs h d er := by
  have B1 : Below w.heap.size w ((w.alloc (.cells #[.int .i64 wd, hv, sv] 25)).alloc (.cells #[.int .i64 h] 3)) := ((Below.refl _ w).alloc (Nat.le_refl _) _).alloc (by simp) _
  have CO := Lib.hid (land_any (B := B) (wd := wd) hn (by simp; omega) (hh.below (B1.mono hB)) (hss.below (B1.mono hB)) (hxs.below (B1.mono hB)))
  have HR := Lib.hid (And.intro hh (And.intro hss hxs))
  obtain ⟨ha, hcap, rfl, -⟩ := hh
  obtain ⟨sa, scap, rfl, -⟩ := hss
  obtain ⟨ca, ccap, rfl, hcc⟩ := hxs
  have HCC := Lib.hid hcc
  clear hcc
  go_enter Try.func47, Try.ntmps47
  go_wp2_with fail
  have z1 : ((w.alloc (.cells #[.int .i64 wd, .slice ha hs.length hcap, .slice sa ss.length scap] 25)).alloc (.cells #[.int .i64 h] 3)).cell? ⟨w.heap.size, 1, none⟩ = some (.slice ha hs.length hcap) := by simp [go_sem]
  have z2 : ((w.alloc (.cells #[.int .i64 wd, .slice ha hs.length hcap, .slice sa ss.length scap] 25)).alloc (.cells #[.int .i64 h] 3)).cell? ⟨w.heap.size + 1, 0, none⟩ = some (.int .i64 h) := by simp [go_sem]
  refine CO.out.mono ?_
  rintro e w1 ⟨p, rfl, hb, hyes⟩
  have r1 := cell_on hb z1
  have r2 := cell_on hb z2
  have BR : Below w.heap.size w w1 := B1.trans (hb.mono (by simp; omega))
  have hqs : w.heap.size + 2 ≤ w1.heap.size := by have := hb.size; simpa using this
  clear z1 z2 hb CO B1
  obtain ⟨er, her⟩ : ∃ er, er = landErr wd hs ss xs := ⟨_, rfl⟩
  rw [← her] at hyes ⊢
  have HER := Lib.hid her
  clear her
  by_cases he : er = 0
  · subst he
    obtain ⟨q, rfl, hq, HW, HM⟩ := hyes rfl
    have hq : w.heap.size + 2 ≤ q := by simpa using hq
    have HWM := Lib.hid (And.intro HW HM)
    have H12 := Lib.hid (And.intro r1 r2)
    clear hyes HW HM r1 r2
    go_wp2_with fail
    go_loopw [10] (fun i wr => ∃ k : Nat, 1 ≤ k ∧ (k ≤ xs.length ∨ k = 1) ∧ i = .int .i64 k ∧ Hid (∀ j, 1 ≤ j → j < k → xs.getD (j - 1) 0 < xs.getD j 0) ∧ Below w1.heap.size w1 wr) (fun i _ => xs.length - (intOf i).toNat)
    case atStart => exact ⟨1, Nat.le_refl _, .inr rfl, rfl, Lib.hid (fun j h1 h2 => by omega), Below.refl _ _⟩
    case round =>
      obtain ⟨k, hk1, hk2, rfl, hP, hbr⟩ := hrel
      have hsr := hbr.size
      by_cases hlt : k < xs.length
      · obtain ⟨cb, coff, rfl, hcb, hcell⟩ := HCC.out (ints_ne (by omega))
        obtain ⟨x, hx⟩ : ∃ x, x = xs.getD k 0 := ⟨_, rfl⟩
        obtain ⟨y, hy⟩ : ∃ y, y = xs.getD (k - 1) 0 := ⟨_, rfl⟩
        have BW : Below w.heap.size w wr := BR.trans (hbr.mono (by omega))
        have q1 : wr.cell? ⟨cb, coff + k, none⟩ = some (.int .i64 x) := by rw [hx]; exact cell_below BW (hcell _ _ (ints_at' xs k hlt)) (by dsimp only; omega)
        have q2 : wr.cell? ⟨cb, coff + (k - 1), none⟩ = some (.int .i64 y) := by rw [hy]; exact cell_below BW (hcell _ _ (ints_at' xs (k - 1) (by omega))) (by dsimp only; omega)
        have HX := Lib.hid (And.intro hx hy)
        obtain ⟨j, rfl⟩ : ∃ j, k = j + 1 := ⟨k - 1, by omega⟩
        have hjj : j + 1 - 1 = j := by omega
        rw [hjj] at q2
        clear hx hy hcell BW
        clear hk1 hk2 hjj
        go_wp2_with fail
        have hp1 : (0 : Int) ≤ (j : Int) + 1 := by omega
        have hj2 : j < xs.length := by omega
        have e1 : IntKind.i64.wrap (j : Int) = j := IntWalk.i64_in _ (by omega)
        have hC : (fun W => W.cell? ⟨cb, coff + (j + 1), none⟩ = some (.int .i64 x) ∧ W.cell? ⟨cb, coff + j, none⟩ = some (.int .i64 y)) wr.drew := ⟨q1, q2⟩
        refine Lim.regC' (fun W => W.cell? ⟨cb, coff + (j + 1), none⟩ = some (.int .i64 x) ∧ W.cell? ⟨cb, coff + j, none⟩ = some (.int .i64 y)) [] #[false, false, false, false, false, false, false, false, false, false] (by kernel_rfl) rfl ?_
        refine Lim.stepR 0 (fun _ => trivial) rfl (by kernel_rfl) (fun _ _ _ _ h => h) hC rfl ?_; apply Exists.intro; refine ⟨?_, ?_⟩
        · rintro w ⟨r1, r2⟩; go_simp; try with_reducible rfl
        simp only [Act.put, List.setIfInBounds_toArray, List.set_cons_succ, List.set_cons_zero]
        refine Lim.stepR 1 (fun _ => trivial) rfl (by kernel_rfl) (fun _ _ _ _ h => h) hC rfl ?_; apply Exists.intro; refine ⟨?_, ?_⟩
        · rintro w ⟨r1, r2⟩; go_simp; try with_reducible rfl
        simp only [Act.put, List.setIfInBounds_toArray, List.set_cons_succ, List.set_cons_zero]
        refine Lim.stepR 2 (fun _ => trivial) rfl (by kernel_rfl) (fun _ _ _ _ h => h) hC rfl ?_; apply Exists.intro; refine ⟨?_, ?_⟩
        · rintro w ⟨r1, r2⟩; go_simp; try with_reducible rfl
        simp only [Act.put, List.setIfInBounds_toArray, List.set_cons_succ, List.set_cons_zero]
        refine Lim.stepR 3 (fun _ => trivial) rfl (by kernel_rfl) (fun _ _ _ _ h => h) hC rfl ?_; apply Exists.intro; refine ⟨?_, ?_⟩
        · rintro w ⟨r1, r2⟩; go_simp; try with_reducible rfl
        simp only [Act.put, List.setIfInBounds_toArray, List.set_cons_succ, List.set_cons_zero]
        refine Lim.stepR 4 (fun _ => trivial) rfl (by kernel_rfl) (fun _ _ _ _ h => h) hC rfl ?_; apply Exists.intro; refine ⟨?_, ?_⟩
        · rintro w ⟨r1, r2⟩; go_simp; try with_reducible rfl
        simp only [Act.put, List.setIfInBounds_toArray, List.set_cons_succ, List.set_cons_zero]
        refine Lim.stepR 5 (fun _ => trivial) rfl (by kernel_rfl) (fun _ _ _ _ h => h) hC rfl ?_; apply Exists.intro; refine ⟨?_, ?_⟩
        · rintro w ⟨r1, r2⟩; go_simp; try with_reducible rfl
        simp only [Act.put, List.setIfInBounds_toArray, List.set_cons_succ, List.set_cons_zero]
        refine Lim.stepR 6 (fun _ => trivial) rfl (by kernel_rfl) (fun _ _ _ _ h => h) hC rfl ?_; apply Exists.intro; refine ⟨?_, ?_⟩
        · rintro w ⟨r1, r2⟩; go_simp; try with_reducible rfl
        simp only [Act.put, List.setIfInBounds_toArray, List.set_cons_succ, List.set_cons_zero]
        refine Lim.stepR 7 (fun _ => trivial) rfl (by kernel_rfl) (fun _ _ _ _ h => h) hC rfl ?_; apply Exists.intro; refine ⟨?_, ?_⟩
        · rintro w ⟨r1, r2⟩; go_simp; try with_reducible rfl
        simp only [Act.put, List.setIfInBounds_toArray, List.set_cons_succ, List.set_cons_zero]
        refine Lim.stepR 8 (fun _ => trivial) rfl (by kernel_rfl) (fun _ _ _ _ h => h) hC rfl ?_; apply Exists.intro; refine ⟨?_, ?_⟩
        · rintro w ⟨r1, r2⟩; go_simp; try with_reducible rfl
        simp only [Act.put, List.setIfInBounds_toArray, List.set_cons_succ, List.set_cons_zero]
        refine Lim.stepR 9 (fun _ => trivial) rfl (by kernel_rfl) (fun _ _ _ _ h => h) hC rfl ?_; apply Exists.intro; refine ⟨?_, ?_⟩
        · rintro w ⟨r1, r2⟩; go_simp; try with_reducible rfl
        simp only [Act.put, List.setIfInBounds_toArray, List.set_cons_succ, List.set_cons_zero]
        refine Lim.stepD (by kernel_rfl) ?_
        clear hC q1 q2 e1 hp1 hj2
        by_cases hxy : x ≤ y
        · have hd : decide (x ≤ y) = true := by simpa using hxy
          go_wp2
          go_ret2
          refine ⟨false, 5, rfl, BR.trans ((hbr.drew).mono (by omega)), .inr (.inl ⟨HER.out.symm, fun h => ?_, rfl, rfl⟩)⟩
          have h2 := h (j + 1) (by omega) hlt
          have h3 := HX.out.1
          have h4 := HX.out.2
          rw [← h3, ← h4] at h2
          omega
        · have hd : decide (x ≤ y) = false := by simpa using hxy
          go_wp2
          go_roundw
          case rel =>
            refine ⟨j + 1 + 1, by omega, .inl (by omega), by go_num, Lib.hid (fun i h1 h2 => ?_), hbr.drew⟩
            by_cases e : i = j + 1
            · subst e
              have h3 := HX.out.1
              have h4 := HX.out.2
              rw [← h3, ← h4]; omega
            · exact hP.out i h1 (by omega)
          case measure => simp [intOf]; omega
      · have hri : rising xs := fun j h1 h2 => hP.out j h1 (by omega)
        have HRI := Lib.hid hri
        have q2 := cell_on hbr H12.out.2
        have q1 := Lib.hid (cell_on hbr H12.out.1)
        have BW := Lib.hid (BR.trans (hbr.mono (by omega)))
        have HW2 := Lib.hid (And.intro (HWM.out.1.below hbr (by omega)) (HWM.out.2.below hbr))
        clear hri hP hk2
        cases hin : inB h 0 10000 with
        | false =>
          have HIN := Lib.hid hin
          go_wp2_with (go_at_call 71; refine (in_any _ _ _ _).mono ?_; rintro e w' ⟨rfl, rfl⟩)
          go_ret2
          exact ⟨false, 4, rfl, BW.out, .inr (.inr (.inl ⟨HER.out.symm, HRI.out, HIN.out, rfl, rfl⟩))⟩
        | true =>
          have HIN := Lib.hid hin
          have HOK := Lib.hid (And.intro (landErr_good HER.out.symm) (openErr_ok (landErr_good HER.out.symm).1))
          have hcells : Hid (∀ k, k < xs.length → ∃ c : Nat, xs.getD k 0 = c ∧ c < hs.length) := Lib.hid (fun k hk => by
            have h1 := HOK.out.1.2 (xs.getD k 0) (by rw [List.getD_eq_getElem?_getD, List.getElem?_eq_getElem hk]; exact List.getElem_mem _)
            unfold offLand at h1
            simp only [Bool.or_eq_false_iff, Bool.not_eq_false'] at h1
            have h2 := inB_iff.1 h1.1
            exact ⟨(xs.getD k 0).toNat, by omega, by omega⟩)
          have CF : Calls Try.prog 85 #[.slice ca xs.length ccap, .func (.func 86) #[] #[.pointer (some ⟨w.heap.size, 0, none⟩), .pointer (some ⟨w.heap.size + 1, 0, none⟩)]] wr fun e w' => e = .returned (.bool (xs.any (fun c => decide ((hs.getD c.toNat (0, 0)).1 < h)))) ∧ Below wr.heap.size wr w' := by
            rw [← any_range]
            refine containsFunc_ints (B := B) (enters_of Try.func86 (by kernel_rfl) rfl) hn (HR.out.2.2.below (BW.out.mono hB)) (by omega) (fun k hk W hbW => ?_)
            obtain ⟨c, hc, hlt2⟩ := hcells.out k hk
            have : Calls Try.prog 86 #[.int .i64 (xs.getD k 0), .pointer (some ⟨w.heap.size, 0, none⟩), .pointer (some ⟨w.heap.size + 1, 0, none⟩)] W fun e W' => e = .returned (.bool (decide ((hs.getD (xs.getD k 0).toNat (0, 0)).1 < h))) ∧ Below W.heap.size W W' := by
              rw [hc, Int.toNat_natCast]
              exact partsb_any (B := B) (h := h) (w := W) hlt2 ((HR.out.1.below (BW.out.mono hB)).below (hbW.mono (by omega))) (cell_on hbW q1.out) (cell_on hbW q2)
            exact app_calls this
          have HC := Lib.hid CF
          obtain ⟨d, hd⟩ : ∃ d, xs.any (fun c => decide ((hs.getD c.toNat (0, 0)).1 < h)) = d := ⟨_, rfl⟩
          rw [hd] at HC
          have HD := Lib.hid hd
          clear hd CF
          go_wp2_with (go_at_call 71; refine (in_any _ _ _ _).mono ?_; rintro e w' ⟨rfl, rfl⟩)
          refine HC.out.mono ?_
          rintro e w5 ⟨rfl, hb5⟩
          have B5 := BW.out.trans (hb5.mono BW.out.size)
          have hs5 := hb5.size
          cases d with
          | true =>
            go_wp2
            go_ret2
            refine ⟨false, 0, rfl, B5, .inr (.inr (.inr ⟨HER.out.symm, HRI.out, HIN.out, rfl, ⟨fun h => (by cases h), fun hh => ?_⟩⟩))⟩
            obtain ⟨c, hc, hlo⟩ := List.any_eq_true.1 HD.out
            have := hh.1 c hc
            simp only [decide_eq_true_eq] at hlo; omega
          | false =>
            have CP := Lib.hid (parts_any (B := B) (b := q) (g := ⟨wd.toNat, hs, ss⟩) (v := .slice ca xs.length ccap) (xs := xs) (w := w5) (M := fun _ => false) HOK.out.2 (by omega) (HW2.out.1.below hb5 (by omega)) (HW2.out.2.below hb5) hn (((HR.out.2.2.below (BW.out.mono hB)).below (hb5.mono (by omega))).x (by omega) (by omega)))
            have HB5 := Lib.hid B5
            clear hb5 B5
            go_wp2_with fail
            refine CP.out.mono ?_
            rintro e w6 ⟨d, rfl, hd, hgr, -⟩
            have HDD := Lib.hid (And.intro hd (below_of_grown hgr (B := w.heap.size) (by omega) (fun r e => by cases e; omega)))
            clear hd hgr CP
            go_wp2
            go_ret2
            refine ⟨d, 0, rfl, HB5.out.trans HDD.out.2, .inr (.inr (.inr ⟨HER.out.symm, HRI.out, HIN.out, rfl, ?_⟩))⟩
            rw [HDD.out.1]
            refine ⟨fun h1 => ⟨fun c hc => ?_, h1⟩, fun h1 => h1.2⟩
            have := List.any_eq_false.1 HD.out c hc
            simp only [decide_eq_true_eq] at this; omega
  · have he1 : (er == 0) = false := by simpa using he
    clear hyes
    go_wp2
    go_ret2
    exact ⟨false, er, rfl, BR, .inl ⟨by rw [← HER.out]; exact he, rfl, HER.out⟩⟩
end Go.Proofs.Ytdgibmgifgdpbaa
/-
  A list of numbers is copied, and one of them is taken out.
-/
namespace Go.Proofs.Ytdgibmgifgdpbaa
open Go.RowKit Go.Shelf
open Lim

theorem clone_any {B : Nat} {v : Value} {L : List Int} {w : World} (hn : L.length ≤ 100000) (h0 : 0 < L.length) (hv : RS B w v L.length (ints L)) :
    Calls Try.prog 75 #[v] w fun e w' => ∃ v', e = .returned v' ∧ w'.ownsRow w.heap.size 3 1 v' L.length (ints L) ∧ Below w.heap.size w w' := by
  obtain ⟨a, cap, rfl, hc⟩ := hv
  obtain ⟨b, off, rfl, hb, hcell⟩ := hc (ints_ne h0)
  refine (Try.slices_Clone_int b off L.length cap L w (Nat.le_refl _) (by omega) (fun j hj => ?_)).mono ?_
  · rw [List.getD_eq_getElem?_getD]; exact hcell j _ (ints_at' L j hj)
  · rintro e w' ⟨v', rfl, ho, -, hb'⟩
    rw [List.take_length] at ho
    exact ⟨v', rfl, ho, hb'⟩

theorem delete_any {base i : Nat} {v : Value} {L : List Int} {w : World} (hn : L.length ≤ 100000) (hi : i < L.length) (h : w.ownsRow base 3 1 v L.length (ints L)) :
    Calls Try.prog 74 #[v, .int .i64 i, .int .i64 ((i : Int) + 1)] w fun e w' => ∃ v', e = .returned v' ∧ w'.ownsRow base 3 1 v' (L.eraseIdx i).length (ints (L.eraseIdx i)) ∧ w.grownBy w' v.ownBlock := by
  rcases h.2 with ⟨rfl, h0⟩ | ⟨gg, cap, cur, rfl, hb, hg, hr1, hr2, hr3, ht⟩
  · omega
  · have hcl : cur.size = cap := by omega
    have hat : ∀ j, j < L.length → cur[j]? = some (.int .i64 L[j]!) := by
      intro j hj
      have h1 : (cur.toList.take (L.length * 1))[j]? = (ints L)[j]? := by rw [ht]
      rw [List.getElem?_take, if_pos (by omega), ints_at L j hj] at h1
      rw [getElem!_pos L j hj]; simpa using h1
    have hH : Sort.Holds (Value.int .i64) w gg 0 L.toArray := by
      intro j hj
      have hj : j < L.length := by simpa using hj
      refine ⟨?_, ?_⟩
      · simp only [World.cell?, hg, Nat.zero_add]
        rw [hat j hj]; simp
      · simp [World.frozen?, hg]
    have hdel := Try.slices_Delete_int gg 0 cap i (i + 1) L w hH hr1 (by unfold maxLen at hr2; omega) (by omega) (by omega)
    have e1 : ((i + 1 : Nat) : Int) = (i : Int) + 1 := by omega
    have e2 : i + 1 - i = 1 := by omega
    rw [e1, e2] at hdel
    refine hdel.mono ?_
    rintro e w' ⟨rfl, q, rfl⟩
    have hE : L.eraseIdx i = L.take i ++ L.drop (i + 1) := List.eraseIdx_eq_take_drop_succ _ _
    have hEl : (L.eraseIdx i).length = L.length - 1 := by rw [List.length_eraseIdx]; simp [hi]
    refine ⟨_, rfl, ⟨by simp [ints], .inr ⟨gg, cap, Sort.putCells (.int .i64) 0 (L.take i ++ L.drop (i + 1) ++ List.replicate 1 0).toArray cur, by rw [hEl], hb, ?_, by omega, hr2, by simp [Sort.putCells]; omega, ?_⟩⟩, putRow_grown _ _ _ _ _ _⟩
    · simp [Sort.putRow, Sort.mapBlock, Sort.ahead, Array.getElem?_modify, hg, Sort.onCells]
    · have hl2 : (L.take i ++ L.drop (i + 1) ++ List.replicate 1 0).length = L.length := by simp; omega
      apply List.ext_getElem?
      intro j
      rw [List.getElem?_take]
      by_cases hj : j < (L.eraseIdx i).length
      · have hjc : j < cur.size := by omega
        have hjL : j < (L.take i ++ L.drop (i + 1)).length := by rw [← hE]; exact hj
        rw [if_pos (by omega), ints_at _ j hj]
        simp only [Sort.putCells, Array.toList_mapIdx, List.getElem?_mapIdx, Array.getElem?_toList, Array.getElem?_eq_getElem hjc, Option.map_some]
        rw [if_pos ⟨by omega, by simp only [List.size_toArray]; omega⟩]
        congr 2
        simp only [Nat.sub_zero]
        rw [getElem!_pos _ j (by simp only [List.size_toArray]; omega)]
        simp only [List.getElem_toArray]
        rw [List.getElem_append_left hjL]
        simp only [hE]
      · rw [if_neg (by omega), List.getElem?_eq_none (by simp [ints]; omega)]
end Go.Proofs.Ytdgibmgifgdpbaa
/-
  A ridge: the contract of ridge's function Ridge.
-/
namespace Go.Proofs.Ytdgibmgifgdpbaa
open Go.RowKit Go.Shelf
open Lim

/-- the high cells among the first k -/
def highTo (g : Gd) (x : Int) (k : Nat) : List Nat := (List.range k).filter fun c => g.ss.getD c 0 == 0 && decide (x ≤ (g.hs.getD c (0, 0)).1)
theorem highTo_succ (g : Gd) (x : Int) (k : Nat) : highTo g x (k + 1) = if (g.ss.getD k 0 == 0 && decide (x ≤ (g.hs.getD k (0, 0)).1)) = true then highTo g x k ++ [k] else highTo g x k := by
  unfold highTo
  rw [List.range_succ, List.filter_append, List.filter_cons, List.filter_nil]
  split
  · rename_i h; simp only [h, if_true]
  · rename_i h; simp only [h, if_false, List.append_nil]
theorem highTo_len (g : Gd) (x : Int) (k : Nat) : (highTo g x k).length ≤ k := Nat.le_trans (List.length_filter_le _ _) (by simp)
def nats (L : List Nat) : List Int := L.map Int.ofNat
theorem nats_length (L : List Nat) : (nats L).length = L.length := by simp [nats]
theorem nats_erase (L : List Nat) (i : Nat) : (nats L).eraseIdx i = nats (L.eraseIdx i) := by
  unfold nats
  rw [List.eraseIdx_eq_take_drop_succ, List.eraseIdx_eq_take_drop_succ, List.map_append, List.map_take, List.map_drop]
theorem mem_nats {L : List Nat} {c : Nat} : (c : Int) ∈ nats L ↔ c ∈ L := by
  unfold nats
  rw [List.mem_map]
  refine ⟨fun ⟨a, h1, h2⟩ => ?_, fun h => ⟨c, h, rfl⟩⟩
  have h3 : (a : Int) = c := h2
  have : a = c := by omega
  rw [← this]; exact h1
theorem PartsG.mono {g : Gd} {xs ys : List Int} (h : PartsG g xs) (hs : ∀ c : Nat, (c : Int) ∈ xs → (c : Int) ∈ ys) : PartsG g ys :=
  fun c hc => h c (hc.mono (fun k hk => ⟨hk.1, fun hm => hk.2 (hs k hm)⟩) (fun _ _ h => h))
/-- what Ridge's second loop keeps -/
structure RInv (g : Gd) (x : Int) (L : List Nat) (i : Nat) : Prop where
  up : L.Pairwise (· < ·)
  cells : ∀ c ∈ L, land g c ∧ x ≤ lowT g c
  parts : PartsG g (nats L)
  need : ∀ j, j < i → j < L.length → ¬ PartsG g (nats (L.eraseIdx j))
theorem RInv.begin {g : Gd} {x : Int} (hg : g.Ok) (h : IsSaddle g (lowT g) x) : RInv g x (highTo g x g.n) 0 := by
  refine ⟨List.Pairwise.filter _ List.pairwise_lt_range, fun c hc => ?_, fun c hc => ?_, fun j hj => by omega⟩
  · have h1 := List.mem_filter.1 hc
    have h2 := List.mem_range.1 h1.1
    have h3 := h1.2
    simp only [Bool.and_eq_true, beq_iff_eq, decide_eq_true_eq] at h3
    exact ⟨⟨h2, h3.1⟩, by rw [lowT_eq]; exact h3.2⟩
  · cases e : atB g c 2 with
    | false => rfl
    | true =>
      obtain ⟨k, hk, hk1⟩ := Re.turn (T := fun c => atB g c 2 = true) hg (fun c h => h.1.1) hc (.base (Re.in_A hc) e)
      have hR : R g (lowT g) 2 (x - 1) k := hk.mono (fun c hc => ⟨hc.1, by
        have h1 := hc.2
        rw [mem_nats] at h1
        rcases Int.lt_or_le (lowT g c) x with h2 | h2
        · omega
        · exact absurd (List.mem_filter.2 ⟨List.mem_range.2 hc.1.1, by simp only [Bool.and_eq_true, beq_iff_eq, decide_eq_true_eq]; exact ⟨hc.1.2, by rw [← lowT_eq]; exact h2⟩⟩) h1⟩) (fun _ _ h => h)
      have := h.least k (x - 1) hk1 hR
      omega
theorem erase_erase_sub {L : List Nat} {i j : Nat} (h : j < i) {c : Nat} (hc : c ∈ (L.eraseIdx i).eraseIdx j) : c ∈ L.eraseIdx j := by
  rw [List.mem_eraseIdx_iff_getElem?] at hc ⊢
  obtain ⟨m, hm, hg⟩ := hc
  rw [List.getElem?_eraseIdx] at hg
  split at hg
  · exact ⟨m, hm, hg⟩
  · exact ⟨m + 1, by omega, hg⟩
theorem RInv.drop {g : Gd} {x : Int} {L : List Nat} {i : Nat} (h : RInv g x L i) (hp : PartsG g (nats (L.eraseIdx i))) : RInv g x (L.eraseIdx i) i := by
  refine ⟨h.up.sublist (List.eraseIdx_sublist _ _), fun c hc => h.cells c ((List.eraseIdx_sublist _ _).subset hc), hp, fun j hj hl hpp => ?_⟩
  have hl2 : j < L.length := Nat.lt_of_lt_of_le hl (List.eraseIdx_sublist _ _).length_le
  exact h.need j hj hl2 (hpp.mono (fun c hc => by rw [mem_nats] at hc ⊢; exact erase_erase_sub hj hc))
theorem RInv.keep {g : Gd} {x : Int} {L : List Nat} {i : Nat} (h : RInv g x L i) (hp : ¬ PartsG g (nats (L.eraseIdx i))) : RInv g x L (i + 1) :=
  ⟨h.up, h.cells, h.parts, fun j hj hl => by
    by_cases e : j = i
    · subst e; exact hp
    · exact h.need j (by omega) hl⟩
theorem RInv.short {g : Gd} {x : Int} {L : List Nat} {i : Nat} (h : RInv g x L i) : L.length ≤ g.n := by
  have h1 : L.Sublist (List.range g.n) := by
    have : ∀ (n : Nat) (L : List Nat), L.Pairwise (· < ·) → (∀ c ∈ L, c < n) → L.Sublist (List.range n) := by
      intro n
      induction n with
      | zero => intro L _ hc; cases L with
        | nil => exact .slnil
        | cons a l => exact absurd (hc a (by simp)) (by omega)
      | succ n ih =>
        intro L hp hc
        rw [List.range_succ]
        rcases List.eq_nil_or_concat L with rfl | ⟨l, a, rfl⟩
        · exact List.nil_sublist _
        · rw [List.concat_eq_append] at hp hc ⊢
          have hp2 := List.pairwise_append.1 hp
          by_cases e : a = n
          · subst e
            exact (ih l hp2.1 (fun c hc' => by have := hp2.2.2 c hc' a (by simp); omega)).append (List.Sublist.refl _)
          · refine (ih (l ++ [a]) hp (fun c hc' => ?_)).trans (List.sublist_append_left _ _)
            rcases List.mem_append.1 hc' with h3 | h3
            · have h4 := hp2.2.2 c h3 a (by simp)
              have h5 := hc a (by simp)
              omega
            · have : c = a := by simpa using h3
              have h5 := hc a (by simp)
              omega
    exact this _ _ h.up (fun c hc => (h.cells c hc).1.1)
  have := h1.length_le
  simpa using this
/-- what Ridge answers -/
def RidgeAns (wd : Int) (hs : List (Int × Int)) (ss : List Int) (w : World) (e : Ending) (w' : World) : Prop :=
  ∃ v x y er, ∃ L : List Nat, e = .returned (.tuple #[v, .int .i64 er]) ∧ Below w.heap.size w w' ∧ SadAns wd hs ss x y er ∧ w'.ownsRow w.heap.size 3 1 v L.length (ints (nats L)) ∧ (er ≠ 0 → L = []) ∧
    (er = 0 → RInv ⟨wd.toNat, hs, ss⟩ x L L.length)

theorem owns_grown {w w' : World} {base e size n : Nat} {v : Value} {xs : List Value} {row : Option Nat} (h : w.ownsRow base e size v n xs) (hg : w.grownBy w' row) (hr : ∀ r, row = some r → r < base) : w'.ownsRow base e size v n xs := by
  refine ⟨h.1, ?_⟩
  rcases h.2 with hn | ⟨g, cap, cur, hv, hB, hgg, r⟩
  · exact .inl hn
  · exact .inr ⟨g, cap, cur, hv, hB, (hg.block g (Array.getElem?_eq_some_iff.1 hgg).1 (fun e => by have := hr g e.symm; omega)).trans hgg, r⟩

set_option maxRecDepth 100000 in
set_option maxHeartbeats 2000000 in
theorem Ridge_any {B : Nat} {wd : Int} {hv sv : Value} {hs : List (Int × Int)} {ss : List Int} {w : World} (hB : B ≤ w.heap.size) (hh : RS B w hv hs.length (spans hs)) (hss : RS B w sv ss.length (ints ss)) :
    Calls Try.prog 34 #[.agg #[.int .i64 wd, hv, sv]] w fun e w' => RidgeAns wd hs ss w e w' := by
  have B1 : Below w.heap.size w (w.alloc (.cells #[.int .i64 wd, hv, sv] 25)) := (Below.refl _ w).alloc (Nat.le_refl _) _
  have CO := Lib.hid (crossed_ans (B := B) (wd := wd) (by simp; omega) (hh.below (B1.mono hB)) (hss.below (B1.mono hB)))
  obtain ⟨ha, hcap, rfl, hha⟩ := hh
  obtain ⟨sa, scap, rfl, hsa⟩ := hss
  have HR := Lib.hid (And.intro hha hsa)
  clear hha hsa
  go_enter Try.func34, Try.ntmps34
  go_wp2_with fail
  have z1 : (w.alloc (.cells #[.int .i64 wd, .slice ha hs.length hcap, .slice sa ss.length scap] 25)).cell? ⟨w.heap.size, 1, none⟩ = some (.slice ha hs.length hcap) := by simp [go_sem]
  have z2 : (w.alloc (.cells #[.int .i64 wd, .slice ha hs.length hcap, .slice sa ss.length scap] 25)).cell? ⟨w.heap.size, 2, none⟩ = some (.slice sa ss.length scap) := by simp [go_sem]
  refine CO.out.mono ?_
  rintro e w1 ⟨p, x, y, er, rfl, hb, hans, hno, hyes⟩
  have r1 := cell_on hb z1
  have r2 := cell_on hb z2
  have hs1 : w.heap.size + 1 ≤ w1.heap.size := by have := hb.size; simpa using this
  have BR := B1.trans (hb.mono (by simp))
  have HA := Lib.hid hans
  clear z1 z2 hb B1 CO hans
  by_cases her : er = 0
  · subst her
    obtain ⟨q, rfl, hq, HW, HM⟩ := hyes rfl
    have hq : w.heap.size + 1 ≤ q := by simpa using hq
    have hqw := HW.lt
    have HG := Lib.hid (openErr_ok HA.out.good.1)
    have B2 : Below w1.heap.size w1 (w1.alloc (.cells #[.int .i64 x, .int .i64 y] 54)) := (Below.refl _ w1).alloc (Nat.le_refl _) _
    have HWM := Lib.hid (And.intro (HW.below B2 (by omega)) (HM.below B2))
    have y1 : (w1.alloc (.cells #[.int .i64 x, .int .i64 y] 54)).cell? ⟨w1.heap.size, 0, none⟩ = some (.int .i64 x) := cell_new w1 #[.int .i64 x, .int .i64 y] 54 0 (by simp)
    have hs2 : (w1.alloc (.cells #[.int .i64 x, .int .i64 y] 54)).heap.size = w1.heap.size + 1 := by simp
    have HY := Lib.hid (And.intro (BR.trans (B2.mono (by omega))) (And.intro y1 (cell_on B2 r2)))
    have q1 := cell_on B2 r1
    clear hno hyes HW HM y1 B2 r1 r2
    have hl : hs.length ≤ 100 := by have h1 : ss.length ≤ 100 := HG.out.n1; have h2 : hs.length = ss.length := HG.out.hn; omega
    have HSL : Hid (ss.length = hs.length) := Lib.hid HG.out.hn.symm
    go_wp2_with fail
    generalize (w1.alloc (.cells #[.int .i64 x, .int .i64 y] 54)) = w2 at HY HWM hs2 q1 ⊢
    obtain ⟨i0, hi, hz0, hz1, hz2⟩ := info_parts Try.infoInt
    have HI := Lib.hid (And.intro hi (And.intro hz0 (And.intro hz1 hz2)))
    clear hi hz0 hz1 hz2 q1
    go_loopw [7, 25] (fun v i wr => ∃ k : Nat, k ≤ hs.length ∧ i = .int .i64 k ∧ wr.ownsRow w2.heap.size 3 1 v (highTo ⟨wd.toNat, hs, ss⟩ x k).length (ints (nats (highTo ⟨wd.toNat, hs, ss⟩ x k))) ∧ Below w2.heap.size w2 wr) (fun _ i _ => hs.length - (intOf i).toNat)
    case atStart => exact ⟨0, Nat.zero_le _, rfl, World.ownsRow_nil _ _ _ _, Below.refl _ _⟩
    case round =>
      obtain ⟨k, hk, rfl, hown, hbr⟩ := hrel
      have hsr := hbr.size
      by_cases hlt : k < hs.length
      · obtain ⟨hb, hoff, rfl, hhb, hcell⟩ := HR.out.1 (spans_ne (by omega))
        obtain ⟨sb, soff, rfl, hsb, hsc⟩ := HR.out.2 (ints_ne (by have := HSL.out; omega))
        obtain ⟨lo, hlo⟩ : ∃ lo, lo = (hs.getD k (0, 0)).1 := ⟨_, rfl⟩
        obtain ⟨up, hup⟩ : ∃ up, up = (hs.getD k (0, 0)).2 := ⟨_, rfl⟩
        obtain ⟨z, hz⟩ : ∃ z, z = ss.getD k 0 := ⟨_, rfl⟩
        have BW : Below w.heap.size w wr := HY.out.1.trans (hbr.mono (by omega))
        have c0 : wr.cell? ⟨hb, hoff + k * 2, none⟩ = some (.int .i64 lo) := by rw [hlo, List.getD_eq_getElem?_getD, List.getElem?_eq_getElem hlt]; exact cell_below BW (hcell _ _ (spans_lo _ k hlt)) (by dsimp only; omega)
        have c1 : wr.cell? ⟨hb, hoff + k * 2 + 1, none⟩ = some (.int .i64 up) := by rw [hup, List.getD_eq_getElem?_getD, List.getElem?_eq_getElem hlt]; exact cell_below BW (hcell _ _ (spans_hi _ k hlt)) (by dsimp only; omega)
        have c2 : wr.cell? ⟨sb, soff + k, none⟩ = some (.int .i64 z) := by rw [hz]; exact cell_below BW (hsc k _ (ints_at' _ _ (by have := HSL.out; omega))) (by dsimp only; omega)
        have c3 : wr.cell? ⟨w.heap.size, 2, none⟩ = some (.slice (some ⟨sb, soff, none⟩) ss.length scap) := cell_on hbr HY.out.2.2
        have c4 : wr.cell? ⟨w1.heap.size, 0, none⟩ = some (.int .i64 x) := cell_on hbr HY.out.2.1
        have hcond : Hid ((ss.getD k 0 == 0 && decide (x ≤ (hs.getD k (0, 0)).1)) = (z == 0 && decide (x ≤ lo))) := Lib.hid (by rw [hz, hlo])
        have l1 : w.heap.size < wr.heap.size := by omega
        have l2 : w1.heap.size < wr.heap.size := by omega
        have l3 : sb < wr.heap.size := by omega
        have hsk : k < ss.length := by have := HSL.out; omega
        have HO := Lib.hid hown
        have hk1 : (k : Int) < 100 := by omega
        have HLen : Hid ((highTo ⟨wd.toNat, hs, ss⟩ x k).length ≤ 100) := Lib.hid (Nat.le_trans (highTo_len _ _ _) (by omega))
        clear hlo hup hz hown hsc hcell BW
        have fin0 : (z == 0 && decide (x ≤ lo)) = false → (wr.alloc (.cells #[.int .i64 lo, .int .i64 up] 54)).ownsRow w2.heap.size 3 1 u7 (highTo ⟨wd.toNat, hs, ss⟩ x (k + 1)).length (ints (nats (highTo ⟨wd.toNat, hs, ss⟩ x (k + 1)))) ∧ Below w2.heap.size w2 (wr.alloc (.cells #[.int .i64 lo, .int .i64 up] 54)) := by
          intro hd
          rw [highTo_succ, show (⟨wd.toNat, hs, ss⟩ : Gd).ss = ss from rfl, show (⟨wd.toNat, hs, ss⟩ : Gd).hs = hs from rfl, hcond.out, hd, if_neg (by decide)]
          exact ⟨HO.out.alloc _, hbr.alloc hsr _⟩
        have fin1 : (z == 0 && decide (x ≤ lo)) = true → ∀ v' w3, w3.ownsRow w2.heap.size 3 1 v' ((highTo ⟨wd.toNat, hs, ss⟩ x k).length + 1) (ints (nats (highTo ⟨wd.toNat, hs, ss⟩ x k)) ++ [.int .i64 k]) → ((wr.alloc (.cells #[.int .i64 lo, .int .i64 up] 54)).alloc (.cells #[.int .i64 k] 3)).grownBy w3 u7.ownBlock →
            w3.ownsRow w2.heap.size 3 1 v' (highTo ⟨wd.toNat, hs, ss⟩ x (k + 1)).length (ints (nats (highTo ⟨wd.toNat, hs, ss⟩ x (k + 1)))) ∧ Below w2.heap.size w2 w3 := by
          intro hd v' w3 h1 h2
          rw [highTo_succ, show (⟨wd.toNat, hs, ss⟩ : Gd).ss = ss from rfl, show (⟨wd.toNat, hs, ss⟩ : Gd).hs = hs from rfl, hcond.out, hd, if_pos rfl]
          exact ⟨by simpa [ints, nats] using h1, ((hbr.alloc hsr _).alloc (by simp; omega) _).grown h2 (by simp; omega) (fun j e => by have := HO.out.lt j e; omega)⟩
        have F0 := Lib.hid fin0
        have F1 := Lib.hid fin1
        clear fin0 fin1
        by_cases hz0 : z = 0
        · subst hz0
          by_cases hxl : x ≤ lo
          · have hd : decide (x ≤ lo) = true := by simpa using hxl
            go_wp2_with (at_builtin; refine wpList_append_own _ rfl _ _ 23 rfl w2.heap.size 3 i0 (.int .i64 0) 1 8 Try.underlying23 HI.out.1 HI.out.2.1 HI.out.2.2.1 HI.out.2.2.2 rfl (by decide) _ _ _ rfl ((HO.out.alloc _).alloc _) ⟨wr.heap.size + 1, 0, none⟩ 1 1 [.int .i64 k] rfl rfl (by have h := cell_one_new (wr.alloc (.cells #[.int .i64 lo, .int .i64 up] 54)) (.int .i64 k) 3; rw [World.size_alloc] at h; exact h) (by simp [Value.oneCell']) (by have := HLen.out; unfold maxLen; omega) (by have := HLen.out; omega) (by simp; omega) ?_; intro v' w11 hown3 hgrow _; have H3 := Lib.hid (F1.out (by rw [hd]; rfl) v' w11 hown3 hgrow); clear hown3 hgrow)
            go_roundw
            case rel => exact ⟨k + 1, by omega, by go_num, H3.out⟩
            case measure => simp [intOf]; omega
          · have hd : decide (x ≤ lo) = false := by simpa using hxl
            go_wp2
            go_roundw
            case rel => exact ⟨k + 1, by omega, by go_num, F0.out (by rw [hd]; rfl)⟩
            case measure => simp [intOf]; omega
        · have hz1 : (z == 0) = false := by simpa using hz0
          go_wp2
          go_roundw
          case rel => exact ⟨k + 1, by omega, by go_num, F0.out (by rw [hz1]; rfl)⟩
          case measure => simp [intOf]; omega
      · obtain rfl : k = hs.length := by omega
        have HP0 : Hid (RInv ⟨wd.toNat, hs, ss⟩ x (highTo ⟨wd.toNat, hs, ss⟩ x hs.length) 0) := Lib.hid (by rw [← HSL.out]; exact RInv.begin HG.out HA.out.good.2.1)
        have HWR := Lib.hid (And.intro (HWM.out.1.below hbr (by omega)) (HWM.out.2.below hbr))
        have BWR := HY.out.1.trans (hbr.mono (by omega))
        go_wp2_with fail
        go_loopw [7, 11] (fun v i wr => ∃ (L : List Nat) (i' : Nat), i = .int .i64 i' ∧ i' ≤ L.length ∧ wr.ownsRow w2.heap.size 3 1 v L.length (ints (nats L)) ∧ WorkIn B wr q ⟨wd.toNat, hs, ss⟩ ∧ (∃ M, MetAt wr q M) ∧ Below w.heap.size w wr ∧ w2.heap.size ≤ wr.heap.size ∧ Hid (RInv ⟨wd.toNat, hs, ss⟩ x L i')) (fun v i _ => (match v with | .slice _ n _ => n | _ => 0) - (intOf i).toNat)
        case atStart => exact ⟨_, 0, rfl, Nat.zero_le _, hown, HWR.out.1, ⟨_, HWR.out.2⟩, BWR, hsr, HP0⟩
        case round =>
          clear hown HWR BWR HP0 hbr hsr
          obtain ⟨L, i, rfl, hiL, hown, hwk, ⟨M, hmet⟩, hbw, hsz, hP⟩ := hrel
          have hLn : L.length ≤ 100 := by have h1 := hP.out.short; have h2 : ss.length ≤ 100 := HG.out.n1; have h3 : (⟨wd.toNat, hs, ss⟩ : Gd).n = ss.length := rfl; omega
          obtain ⟨a7, cap7, hv7⟩ : ∃ a c, u7 = .slice a L.length c := by
            rcases hown.2 with ⟨h1, h2⟩ | ⟨gg, c, cur, h1, -⟩
            · exact ⟨_, _, by rw [h1, h2]⟩
            · exact ⟨_, _, h1⟩
          subst hv7
          by_cases hlt : i < L.length
          · have CC := Lib.hid (clone_any (B := wr.heap.size) (L := nats L) (by rw [nats_length]; omega) (by rw [nats_length]; omega) (RS.of_owns' hown (by rw [nats_length])))
            rw [nats_length] at CC
            have HO := Lib.hid (And.intro hown (And.intro hwk hmet))
            have HBW := Lib.hid hbw
            clear hown hwk hmet hbw
            go_wp2_with fail
            refine CC.out.mono ?_
            rintro e w3 ⟨v3, rfl, ho3, hb3⟩
            have CD := Lib.hid (delete_any (i := i) (L := nats L) (by rw [nats_length]; omega) (by rw [nats_length]; omega) (by rw [nats_length]; exact ho3))
            have H3 := Lib.hid (And.intro ho3 hb3)
            have hs3 := hb3.size
            clear CC ho3 hb3
            have hi1 : (i : Int) < 100 := by omega
            go_wp2_with fail
            refine CD.out.mono ?_
            rintro e w4 ⟨v4, rfl, ho4, hg4⟩
            rw [nats_erase, nats_length] at ho4
            have hb4 : Below wr.heap.size wr w4 := H3.out.2.grown hg4 hs3 (fun j e => (H3.out.1.lt j e).1)
            have HO4 := Lib.hid (And.intro ho4 hb4)
            have hs4 := hb4.size
            have CP := Lib.hid (parts_any (B := B) (b := q) (g := ⟨wd.toNat, hs, ss⟩) (v := v4) (xs := nats (L.eraseIdx i)) (w := w4) (M := M) HG.out (by omega) (HO.out.2.1.below hb4 (by omega)) (HO.out.2.2.below hb4) (by rw [nats_length, List.length_eraseIdx]; split <;> omega) (by rw [nats_length]; exact RSx.of_owns ho4 (by omega)))
            clear CD H3 ho4 hg4 hb4
            go_wp2_with fail
            refine CP.out.mono ?_
            rintro e w5 ⟨d, rfl, hd, hg5, hwk5, M5, hm5⟩
            have BW5 : Below w.heap.size w w5 := (HBW.out.trans (HO4.out.2.mono (by omega))).trans (below_of_grown hg5 (by omega) (fun r e => by cases e; omega))
            have hs5 := hg5.size
            have HD := Lib.hid hd
            have H5 := Lib.hid (And.intro BW5 (And.intro hwk5 hm5))
            have HOLD := Lib.hid (owns_grown (owns_below HO.out.1 HO4.out.2) hg5 (fun r e => by cases e; omega))
            have HNEW := Lib.hid (owns_mono (owns_grown HO4.out.1 hg5 (fun r e => by cases e; omega)) hsz)
            have hel : (L.eraseIdx i).length = L.length - 1 := by rw [List.length_eraseIdx, if_pos hlt]
            obtain ⟨a4, cap4, hv4⟩ : ∃ a c, v4 = .slice a (L.length - 1) c := by
              rcases HNEW.out.2 with ⟨h1, h2⟩ | ⟨gg, c, cur, h1, -⟩
              · exact ⟨_, _, by rw [h1, ← hel, h2]⟩
              · exact ⟨_, _, by rw [h1, hel]⟩
            subst hv4
            have HEL := Lib.hid hel
            clear hd hg5 hwk5 hm5 BW5 CP hel
            cases d with
            | true =>
              go_wp2
              go_roundw
              case rel => exact ⟨L.eraseIdx i, i, rfl, by have := HEL.out; omega, HNEW.out, H5.out.2.1, ⟨M5, H5.out.2.2⟩, H5.out.1, by omega, Lib.hid (hP.out.drop (HD.out.1 (by trivial)))⟩
              case measure => simp [intOf]; omega
            | false =>
              go_wp2
              go_roundw
              case rel => exact ⟨L, i + 1, by go_num, by omega, HOLD.out, H5.out.2.1, ⟨M5, H5.out.2.2⟩, H5.out.1, by omega, Lib.hid (hP.out.keep (fun h => by have := HD.out.2 h; cases this))⟩
              case measure => simp [intOf]; omega
          · have hiL2 : i = L.length := by omega
            have HO := Lib.hid hown
            clear hown
            go_wp2
            go_ret2
            exact ⟨_, x, y, 0, L, rfl, hbw, HA.out, owns_mono HO.out (by omega), fun h => absurd rfl h, fun _ => by rw [← hiL2]; exact hP.out⟩
  · have hp := hno her
    subst hp
    have he1 : (er == 0) = false := by simpa using her
    clear hno hyes
    go_wp2
    go_ret2
    exact ⟨_, x, y, er, [], rfl, BR.alloc (by omega) _, HA.out, World.ownsRow_nil _ _ _ _, fun _ => rfl, fun h => absurd h her⟩
end Go.Proofs.Ytdgibmgifgdpbaa
