/-
  Parts of the proof, in the order in which they build: EvG.
-/
import Derived.RangeFuncNested
import Derived.Carry
import Derived.Deep.CutRange
import Derived.BigQuiet
import Derived.Test.YtiacgaplhndlnaaF12
set_option linter.unusedVariables false
set_option linter.unusedSimpArgs false
namespace Go.Proofs.Ytiacgaplhndlnaa
open Go.RowKit Go.Shelf
open Lim

attribute [local go_sem] Oper.semAt_some

/-- a map at work: block b has it, block g the regions of its plots -/
structure WkE (W : World) (B b g : Nat) (m : Mp) (r : Nat → Nat) (k : Nat) : Prop where
  lt : B ≤ b ∧ B ≤ g ∧ b ≠ g
  c0 : W.cell? ⟨b, 0, none⟩ = some (.int .i64 m.wd)
  c1 : ∃ ov, W.cell? ⟨b, 1, none⟩ = some ov ∧ RS B W ov m.n (ints m.os)
  c2 : W.cell? ⟨b, 2, none⟩ = some (.slice (some ⟨g, 0, none⟩) m.n m.n)
  c3 : W.cell? ⟨b, 3, none⟩ = some (.int .i64 k)
  mt : ∃ M, MetE W b M
  row : RowC W g m.n (fun p => (r p : Int))
/-- what opened answers -/
def OpAns (B : Nat) (wd : Int) (os : List Int) (w : World) (e : Ending) (w' : World) : Prop :=
  Below w.heap.size w w' ∧ ((errE wd os = 0 ∧ ∃ (b g : Nat) (r : Nat → Nat) (k : Nat), e = .returned (.tuple #[.pointer (some ⟨b, 0, none⟩), .int .i64 0]) ∧ (w.heap.size ≤ b ∧ w.heap.size ≤ g) ∧
    WkE w' B b g ⟨wd.toNat, os⟩ r k ∧ IsReg ⟨wd.toNat, os⟩ r ∧ IsMany ⟨wd.toNat, os⟩ r k) ∨ (errE wd os ≠ 0 ∧ e = .returned (.tuple #[.pointer none, .int .i64 (errE wd os)])))
theorem results_two {P : Program} {fn : Func} {p q : Tmp} (h : fn.results = #[.tmp p, .tmp q]) (tmps : Array Value) (w : World) {v u : Value} (hv : tmps.getD p undef = v) (hu : tmps.getD q undef = u) : (results fn tmps).run P w = .ok (.tuple #[v, u]) w := by
  subst hv hu
  simp [results, h]
/-- .. while a region is filled from its first plot: the owner's box be, the stack's box bs -/
structure OpS (w : World) (m : Mp) (oa : Option Addr) (oc bm bw b rb S : Nat) (R : Nat → Int) (c be bs : Nat) (o : Int) (q : List Nat) (W : World) : Prop where
  M : OpM w m oa oc bm bw b rb S R c W
  st : StM bs q W
  ow : W.cell? ⟨be, 0, none⟩ = some (.int .i64 o)
  le : S ≤ be ∧ be < bs
section
variable {w : World} {m : Mp} {oa : Option Addr} {oc bm bw b rb S : Nat} {R : Nat → Int} {c be bs : Nat} {o : Int} {q q' : List Nat} {W W' : World} {T : Nat → Prop}
theorem OpS.below (h : OpS w m oa oc bm bw b rb S R c be bs o q W) (hb : Below W.heap.size W W') : OpS w m oa oc bm bw b rb S R c be bs o q W' := ⟨h.M.below hb, h.st.below hb, hb.on h.ow, h.le⟩
theorem OpS.steady {B : Nat} (h : OpS w m oa oc bm bw b rb S R c be bs o q W) (hs : Steady B W W') (hB : w.heap.size ≤ B) : OpS w m oa oc bm bw b rb S R c be bs o q W' := ⟨h.M.steady hs hB, h.st.steady hs, hs.cell h.ow, h.le⟩
theorem OpS.setR (h : OpS w m oa oc bm bw b rb S R c be bs o q W) {k : Nat} (hk : k < m.n) (v : Int) : OpS w m oa oc bm bw b rb S (upd R k v) c be bs o q (W.setCell ⟨rb, k, none⟩ (.int .i64 v)) := by
  have hl := h.M.lt
  have hle := h.le
  exact ⟨h.M.setR hk v, h.st.sep (Sep.set W rb k (.int .i64 v)) (fun j hj => by omega), (setCell_far _ _ (by omega)).trans h.ow, h.le⟩
theorem OpS.put (h : OpS w m oa oc bm bw b rb S R c be bs o q W) (hst : StM bs q' W') (hs : Sep T W W') (hT : ∀ k, T k → bs ≤ k) : OpS w m oa oc bm bw b rb S R c be bs o q' W' := by
  have hle := h.le
  exact ⟨h.M.sep hs (fun k hk => by have := hT k hk; omega), hst, hs.cell h.ow (fun hk => by have := hT _ hk; omega), h.le⟩
theorem OpS.lt (h : OpS w m oa oc bm bw b rb S R c be bs o q W) : bs < W.heap.size := h.st.lt
end
/-- the frame of opened while its first loop runs -/
def FrO (bm bw n oc k : Nat) (oa : Option Addr) (a : Act) : Prop := a = { tmps := #[Lim.sl a 0, .pointer (some ⟨bm, 0, none⟩), .pointer none, .int .i64 0, Lim.sl a 4, .pointer (some ⟨bw, 0, none⟩), Lim.sl a 6, Lim.sl a 7, Lim.sl a 8, Lim.sl a 9, Lim.sl a 10, Lim.sl a 11, Lim.sl a 12, Lim.sl a 13, Lim.sl a 14, Lim.sl a 15, Lim.sl a 16, Lim.sl a 17, Lim.sl a 18, Lim.sl a 19, Lim.sl a 20, Lim.sl a 21, Lim.sl a 22, Lim.sl a 23, .slice oa n oc, .int .i64 n, .int .i64 k, Lim.sl a 27, Lim.sl a 28, Lim.sl a 29, Lim.sl a 30, Lim.sl a 31, Lim.sl a 32, Lim.sl a 33, Lim.sl a 34, Lim.sl a 35, Lim.sl a 36, Lim.sl a 37, Lim.sl a 38, Lim.sl a 39, Lim.sl a 40, Lim.sl a 41, Lim.sl a 42, Lim.sl a 43, Lim.sl a 44, Lim.sl a 45, Lim.sl a 46, Lim.sl a 47, Lim.sl a 48, Lim.sl a 49, Lim.sl a 50, Lim.sl a 51, Lim.sl a 52, Lim.sl a 53, Lim.sl a 54, Lim.sl a 55, Lim.sl a 56, Lim.sl a 57, Lim.sl a 58, Lim.sl a 59, Lim.sl a 60, Lim.sl a 61, Lim.sl a 62, Lim.sl a 63, Lim.sl a 64, Lim.sl a 65, Lim.sl a 66, Lim.sl a 67, Lim.sl a 68, Lim.sl a 69, Lim.sl a 70, Lim.sl a 71, Lim.sl a 72, Lim.sl a 73, Lim.sl a 74, Lim.sl a 75, Lim.sl a 76, Lim.sl a 77, Lim.sl a 78, Lim.sl a 79, Lim.sl a 80, Lim.sl a 81, Lim.sl a 82, Lim.sl a 83, Lim.sl a 84, Lim.sl a 85, Lim.sl a 86, Lim.sl a 87, Lim.sl a 88, Lim.sl a 89, Lim.sl a 90, Lim.sl a 91, Lim.sl a 92, Lim.sl a 93, Lim.sl a 94, Lim.sl a 95, Lim.sl a 96, Lim.sl a 97, Lim.sl a 98, Lim.sl a 99], defers := a.defers }
/-- .. and its second one -/
def FrI (bm bw n oc k be bs : Nat) (oa : Option Addr) (a : Act) : Prop := a = { tmps := #[Lim.sl a 0, .pointer (some ⟨bm, 0, none⟩), .pointer none, .int .i64 0, Lim.sl a 4, .pointer (some ⟨bw, 0, none⟩), .int .i64 k, .pointer (some ⟨be, 0, none⟩), .pointer (some ⟨bs, 0, none⟩), Lim.sl a 9, Lim.sl a 10, Lim.sl a 11, Lim.sl a 12, Lim.sl a 13, Lim.sl a 14, Lim.sl a 15, Lim.sl a 16, Lim.sl a 17, Lim.sl a 18, Lim.sl a 19, Lim.sl a 20, Lim.sl a 21, Lim.sl a 22, Lim.sl a 23, .slice oa n oc, .int .i64 n, .int .i64 k, Lim.sl a 27, Lim.sl a 28, Lim.sl a 29, Lim.sl a 30, Lim.sl a 31, Lim.sl a 32, Lim.sl a 33, Lim.sl a 34, Lim.sl a 35, Lim.sl a 36, Lim.sl a 37, Lim.sl a 38, Lim.sl a 39, Lim.sl a 40, Lim.sl a 41, Lim.sl a 42, Lim.sl a 43, Lim.sl a 44, Lim.sl a 45, Lim.sl a 46, Lim.sl a 47, Lim.sl a 48, Lim.sl a 49, Lim.sl a 50, Lim.sl a 51, Lim.sl a 52, Lim.sl a 53, Lim.sl a 54, Lim.sl a 55, Lim.sl a 56, Lim.sl a 57, Lim.sl a 58, Lim.sl a 59, Lim.sl a 60, Lim.sl a 61, Lim.sl a 62, Lim.sl a 63, Lim.sl a 64, Lim.sl a 65, Lim.sl a 66, Lim.sl a 67, Lim.sl a 68, Lim.sl a 69, Lim.sl a 70, Lim.sl a 71, Lim.sl a 72, Lim.sl a 73, Lim.sl a 74, Lim.sl a 75, Lim.sl a 76, Lim.sl a 77, Lim.sl a 78, Lim.sl a 79, Lim.sl a 80, Lim.sl a 81, Lim.sl a 82, Lim.sl a 83, Lim.sl a 84, Lim.sl a 85, Lim.sl a 86, Lim.sl a 87, Lim.sl a 88, Lim.sl a 89, Lim.sl a 90, Lim.sl a 91, Lim.sl a 92, Lim.sl a 93, Lim.sl a 94, Lim.sl a 95, Lim.sl a 96, Lim.sl a 97, Lim.sl a 98, Lim.sl a 99], defers := a.defers }
set_option maxRecDepth 20000 in
set_option maxHeartbeats 4000000 in
theorem opened_any {B : Nat} {wd : Int} {ov : Value} {os : List Int} {w : World} (hl : os.length ≤ 100000) (hB : B ≤ w.heap.size) (hv : RS B w ov os.length (ints os)) :
    Calls Try.prog 35 #[.agg #[.int .i64 wd, ov]] w fun e w' => OpAns B wd os w e w' := by
  have HA := Lib.hid (And.intro hl (And.intro hB hv))
  obtain ⟨oa, oc, rfl, -⟩ := hv
  refine (callsIn_wide (n := 2)).1 (callsIn_of_wp_marks Try.func35 rfl trivial ?_ rfl)
  simp only [Try.ntmps35, List.size_toArray, List.length_cons, List.length_nil, Nat.reduceAdd, Nat.reduceSub, Array.replicate_succ, Array.replicate_zero, List.push_toArray, List.append_toArray, List.nil_append, List.cons_append]
  refine wpIn_wide.2 ?_
  refine wp_noPanic ?_
  clear hl hB
  go_wp2_with fail
  have HB0 : Hid (Below w.heap.size w (w.alloc (.cells #[.int .i64 wd, .slice oa os.length oc] 25)) ∧ w.heap.size + 1 = (w.alloc (.cells #[.int .i64 wd, .slice oa os.length oc] 25)).heap.size) := Lib.hid ⟨(Below.refl _ w).alloc (Nat.le_refl _) _, by simp⟩
  have f0 : (w.alloc (.cells #[.int .i64 wd, .slice oa os.length oc] 25)).cell? ⟨w.heap.size, 0, none⟩ = some (.int .i64 wd) := by simp [go_sem]
  have f1 : (w.alloc (.cells #[.int .i64 wd, .slice oa os.length oc] 25)).cell? ⟨w.heap.size, 1, none⟩ = some (.slice oa os.length oc) := by simp [go_sem]
  have HC := Lib.hid (Check_any (B := B) (wd := wd) HA.out.1 (by have := HA.out.2.1; have := HB0.out.2; omega) (HA.out.2.2.below (HB0.out.1.mono HA.out.2.1)))
  generalize w.alloc (.cells #[.int .i64 wd, .slice oa os.length oc] 25) = w0 at HB0 HC f0 f1 ⊢
  refine HC.out.mono ?_
  rintro e w1 ⟨rfl, hb1⟩
  replace f0 := hb1.on f0
  replace f1 := hb1.on f1
  have HB1 : Hid (Below w.heap.size w w1 ∧ w.heap.size < w1.heap.size) := Lib.hid ⟨HB0.out.1.trans (hb1.mono HB0.out.1.size), by have := hb1.size; have := HB0.out.2; omega⟩
  obtain ⟨bm, hbm⟩ : ∃ x, x = w.heap.size := ⟨_, rfl⟩
  rw [← hbm] at f0 f1 ⊢
  have HBM := Lib.hid hbm
  clear hbm hb1 HC HB0
  by_cases he : errE wd os = 0
  · have HE := Lib.hid he
    rw [he]
    clear he
    have HOK : Hid (Mp.Ok ⟨wd.toNat, os⟩ ∧ wd = (wd.toNat : Int)) := Lib.hid (countB_ok (by have h := HE.out; unfold errE at h; cases hc : countB wd os.length with
      | true => rfl
      | false => rw [hc] at h; cases h))
    obtain ⟨m, hm⟩ : ∃ m : Mp, m = ⟨wd.toNat, os⟩ := ⟨_, rfl⟩
    obtain ⟨k, hk⟩ : ∃ k : Int, k = (m.wd : Int) := ⟨_, rfl⟩
    rw [← hm] at HOK
    have hwd : wd = (m.wd : Int) := by rw [hm]; exact HOK.out.2
    have hos : os = m.os := by rw [hm]
    clear hm hk
    subst hwd hos
    have hn : (m.os.length : Nat) = m.n := rfl
    simp only [hn] at HA f1 ⊢
    clear hn
    have HN : Hid (m.n ≤ 100 ∧ 1 ≤ m.n) := Lib.hid ⟨HOK.out.1.n1, HOK.out.1.n0⟩
    go_wp2_with fail
    have hC : (fun W => W.cell? ⟨bm, 0, none⟩ = some (.int .i64 m.wd) ∧ W.cell? ⟨bm, 1, none⟩ = some (.slice oa m.n oc)) w1.drew := ⟨f0, f1⟩
    have H0 : OpP w bm m.wd oa m.n oc (fun _ => false) undef undef undef undef undef w1.drew := ⟨⟨HB1.out.1.drew, HB1.out.2⟩, ⟨f0, f1⟩, fun h => (by cases h), fun h => (by cases h), fun h => (by cases h), fun h => (by cases h), fun h => (by cases h), fun h => (by cases h)⟩
    have HH0 := Lib.hid H0
    clear H0
    refine Lim.regC' (fun W => W.cell? ⟨bm, 0, none⟩ = some (.int .i64 m.wd) ∧ W.cell? ⟨bm, 1, none⟩ = some (.slice oa m.n oc)) [] #[false, false, false, false, false, false, false, false, false, false] (by kernel_rfl) rfl ?_
    refine Lim.stepR 0 (fun _ => trivial) rfl (by kernel_rfl) (fun _ _ _ _ h => h) hC rfl ?_; apply Exists.intro; refine ⟨?_, ?_⟩
    · rintro w ⟨r1, r2⟩; go_simp; try with_reducible rfl
    simp only [Act.put, List.setIfInBounds_toArray, List.set_cons_succ, List.set_cons_zero]
    refine Lim.stepR 2 (fun _ => trivial) rfl (by kernel_rfl) (fun _ _ _ _ h => h) hC rfl ?_; apply Exists.intro; refine ⟨?_, ?_⟩
    · rintro w ⟨r1, r2⟩; go_simp; try with_reducible rfl
    simp only [Act.put, List.setIfInBounds_toArray, List.set_cons_succ, List.set_cons_zero]
    refine Lim.stepR 3 (fun _ => trivial) rfl (by kernel_rfl) (fun _ _ _ _ h => h) hC rfl ?_; apply Exists.intro; refine ⟨?_, ?_⟩
    · rintro w ⟨r1, r2⟩; go_simp; try with_reducible rfl
    simp only [Act.put, List.setIfInBounds_toArray, List.set_cons_succ, List.set_cons_zero]
    refine Lim.stepR 4 (fun _ => trivial) rfl (by kernel_rfl) (fun _ _ _ _ h => h) hC rfl ?_; apply Exists.intro; refine ⟨?_, ?_⟩
    · rintro w ⟨r1, r2⟩; go_simp; try with_reducible rfl
    simp only [Act.put, List.setIfInBounds_toArray, List.set_cons_succ, List.set_cons_zero]
    clear hC f0 f1
    refine Lim.parC [1, 5, 6, 7, 8, 9] (fun done a W => ∃ x5 x16 x20 x21 x22, a = { tmps := #[.agg #[.int .i64 m.wd, .slice oa m.n oc], .pointer (some ⟨bm, 0, none⟩), .pointer none, .int .i64 0, .int .i64 0, x5, undef, undef, undef, undef, .agg #[.int .i64 m.wd, .slice oa m.n oc], .int .i64 0, .int .i64 0, .bool false, undef, .agg #[.int .i64 m.wd, .slice oa m.n oc], x16, .pointer (some ⟨bm, 1, none⟩), .slice oa m.n oc, .int .i64 m.n, x20, x21, x22, undef, undef, undef, undef, undef, undef, undef, undef, undef, undef, undef, undef, undef, undef, undef, undef, undef, undef, undef, undef, undef, undef, undef, undef, undef, undef, undef, undef, undef, undef, undef, undef, undef, undef, undef, undef, undef, undef, undef, undef, undef, undef, undef, undef, undef, undef, undef, undef, undef, undef, undef, undef, undef, undef, undef, undef, undef, undef, undef, undef, undef, undef, undef, undef, undef, undef, undef, undef, undef, undef, undef, undef, undef, undef, undef, undef, undef], defers := [] } ∧ OpP w bm m.wd oa m.n oc done x5 x16 x20 x21 x22 W) (fun _ => trivial) (by kernel_rfl) rfl rfl ?hC ?step ?fin ⟨_, _, _, _, _, rfl, HH0.out⟩
    case hC => rintro done a W ⟨_, _, _, _, _, _, H⟩; exact H.c
    case step =>
      intro i o hi ho done a W hd hdep hS K hK
      obtain ⟨x5, x16, x20, x21, x22, rfl, H⟩ := hS
      simp only [List.mem_cons, List.not_mem_nil, or_false] at hi
      rcases hi with rfl | rfl | rfl | rfl | rfl | rfl
      · cases ho
        clear hdep
        go_simp
        refine hK _ _ ?_
        have hb : Below W.heap.size W (W.alloc (.cells #[.int .i64 (-1)] 3)) := (Below.refl _ W).alloc (Nat.le_refl _) _
        exact ⟨x5, _, x20, x21, x22, rfl, (H.grow hb).did hd (by simp [go_sem])⟩
      · cases ho
        obtain ⟨q, kc, rfl, hq0⟩ := H.d1 (hdep 1 (by kernel_rfl) (by simp))
        have hq := hq0 (by cases h : done 9 with
          | false => rfl
          | true => have h1 := (H.d6 (H.d7 (H.d9 h).2.1).1).1; rw [hd] at h1; cases h1)
        have HR := Lib.hid (repeat_any (c := kc) HN.out.1 HN.out.2 hq)
        clear hdep hq hq0
        go_simp
        refine ⟨rfl, (callsIn_wide.2 HR.out).mono ?_⟩
        rintro e W' ⟨g, rfl, hR⟩
        refine hK _ _ ?_
        have hge := hR.ge
        have := H.be.2
        exact ⟨x5, _, _, x21, x22, rfl, (H.grow hR.be).rep hd g (by omega) hR.row⟩
      · cases ho
        have h5 := hdep 5 (by kernel_rfl) (by simp)
        obtain ⟨g, rfl, hg, hR⟩ := H.d5 h5
        clear hdep
        go_simp
        simp only [workChain]
        refine hK _ _ ?_
        exact ⟨x5, x16, _, _, x22, rfl, H.built h5 hd⟩
      · cases ho
        have h6 := hdep 6 (by kernel_rfl) (by simp)
        obtain ⟨h5, rfl⟩ := H.d6 h6
        clear hdep
        go_simp
        refine hK _ _ ?_
        exact ⟨x5, x16, _, _, _, rfl, H.boxed h6 hd⟩
      · cases ho
        clear hdep
        go_simp
        refine hK _ _ ?_
        exact ⟨_, x16, x20, x21, x22, rfl, H.laid hd⟩
      · cases ho
        have h8 := hdep 8 (by kernel_rfl) (by simp)
        have h7 := hdep 7 (by kernel_rfl) (by simp)
        have h1 := hdep 1 (by kernel_rfl) (by simp)
        obtain ⟨q, u, rfl, hq, ho, -⟩ := H.d8 h8
        obtain ⟨h6, b, rfl, hb, hbo⟩ := H.d7 h7
        have c0 : W.cell? ⟨q, 0, none⟩ = some u := by simp [World.cell?, ho]
        have c1 : W.frozen? ⟨q, 0, none⟩ = false := by simp [World.frozen?, ho]
        clear hdep
        go_simp
        refine hK _ _ ?_
        exact ⟨_, x16, x20, x21, _, rfl, H.stored HBM.out hd h8 h7 h1 ho hq rfl⟩
    case fin =>
      rintro done a W hall ⟨x5, x16, x20, x21, x22, rfl, H⟩
      obtain ⟨bw, b, rb, rfl, M0⟩ := H.all HBM.out hall
      clear H hall HB1
      obtain ⟨n, hn⟩ : ∃ n, n = m.n := ⟨_, rfl⟩
      have m1 := M0.m1
      rw [← hn] at m1 ⊢
      have HNN := Lib.hid hn
      obtain ⟨S, hS⟩ : ∃ S, S = W.heap.size := ⟨_, rfl⟩
      rw [← hS] at M0
      have HM0 := Lib.hid M0
      clear M0 hn hS
      go_wp2_with fail
      refine wp_loop_ghost_k (fun mm a' W => ∃ (k c : Nat) (R : Nat → Int), FrO bm bw n oc k oa a' ∧ Marks S a'.defers W ∧ Hid (OpM w m oa oc bm bw b rb S R c W ∧ Lab m R k c ∧ k ≤ n ∧ mm = n - k ∧ c ≤ k)) n ⟨0, 0, fun _ => -1, rfl, Marks.nil _ _, Lib.hid ⟨HM0.out, Lab.begin m, Nat.zero_le _, rfl, Nat.le_refl _⟩⟩ ?_
      clear HM0 m1
      rintro mm a' W ⟨k, c, R, hfr, hm, hI⟩ J K hJ hK
      unfold FrO at hfr
      generalize a'.defers = ds at hfr hm
      generalize Lim.sl a' = x at hfr
      subst hfr
      by_cases hlt : k < n
      · have hk64 : (k : Int) < 100 := by have := HNN.out; have := HN.out.1; omega
        obtain ⟨oa', oc', e1, hso⟩ := HA.out.2.2
        cases e1
        obtain ⟨ob, oo, rfl, hob, hcell⟩ := hso (ints_ne (by have := HNN.out; show 0 < m.n; omega))
        obtain ⟨o, ho⟩ : ∃ o, o = m.os.getD k 0 := ⟨_, rfl⟩
        have c1 : W.cell? ⟨ob, oo + k, none⟩ = some (.int .i64 o) := by rw [ho]; exact cell_below hI.out.1.be (hcell k _ (ints_at' _ _ (by have := HNN.out; show k < m.n; omega))) (by have := HA.out.2.1; show ob < _; omega)
        have HO := Lib.hid ho
        have HCL := Lib.hid (And.intro hcell hob)
        clear hcell ho
        obtain ⟨r, hr⟩ : ∃ r, r = R k := ⟨_, rfl⟩
        have hal : Below W.heap.size W (W.alloc (.cells #[.int .i64 o] 3)) := (Below.refl _ W).alloc (Nat.le_refl _) _
        have M1 := hI.out.1.below hal
        have e0 := M1.w0
        have e2 := M1.b2
        have e3 := M1.row.c k (by have := HNN.out; omega)
        rw [← HNN.out] at e2
        rw [← hr] at e3
        have e4 : (W.alloc (.cells #[.int .i64 o] 3)).cell? ⟨W.heap.size, 0, none⟩ = some (.int .i64 o) := by simp [go_sem]
        have HM1 := Lib.hid (And.intro M1 (And.intro (hm.keep (keeps_of_below hal)) (And.intro (show W.heap.size + 1 = (W.alloc (.cells #[.int .i64 o] 3)).heap.size by simp) (And.intro hI.out.1.lt.2.2.2.2.2.2.2.2.2.2 hI.out.2))))
        have HR := Lib.hid hr
        clear hr M1 hal hm hI
        go_upto_region 8 with (fail)
        generalize W.alloc (.cells #[.int .i64 o] 3) = W1 at HM1 e0 e2 e3 e4 ⊢
        obtain ⟨be, hbe⟩ : ∃ x, x = W.heap.size := ⟨_, rfl⟩
        rw [← hbe] at HM1 e4 ⊢
        clear hbe c1
        by_cases hr : r = -1
        · subst hr
          have g1 : ((-1 : Int) != -1) = false := by decide
          have hal : Below W1.heap.size W1 (W1.alloc (.cells #[.slice none 0 0] 173)) := (Below.refl _ W1).alloc (Nat.le_refl _) _
          have HM2 : Hid (OpS w m (some ⟨ob, oo, none⟩) oc bm bw b rb S R c be W1.heap.size o [] (W1.alloc (.cells #[.slice none 0 0] 173)) ∧ Marks S ds (W1.alloc (.cells #[.slice none 0 0] 173)) ∧ W1.heap.size + 1 = (W1.alloc (.cells #[.slice none 0 0] 173)).heap.size) :=
            Lib.hid ⟨⟨HM1.out.1.below hal, StM.new W1, hal.on e4, by have := HM1.out; omega⟩, HM1.out.2.1.keep (keeps_of_below hal), by simp⟩
          have HQ := Lib.hid HM1.out.2.2.2.2
          clear hal HM1 e4
          go_upto_region 10 with (fail)
          generalize W1.alloc (.cells #[.slice none 0 0] 173) = W2 at HM2 ⊢
          obtain ⟨bs, hbs⟩ : ∃ x, x = W1.heap.size := ⟨_, rfl⟩
          rw [← hbs] at HM2 ⊢
          clear hbs e0 e2 e3 W1 g1
          have hkn : k < m.n := by have := HNN.out; omega
          have HM2d := Lib.hid (HM2.out.1.below (Below.refl _ W2).drew)
          have HM3 : Hid (OpS w m (some ⟨ob, oo, none⟩) oc bm bw b rb S (upd R k c) c be bs o [] (W2.setCell ⟨rb, k, none⟩ (.int .i64 c)).drew) := Lib.hid ((HM2.out.1.setR hkn c).below (Below.refl _ _).drew)
          have hC : (fun W => W.cell? ⟨bw, 0, none⟩ = some (.pointer (some ⟨b, 0, none⟩)) ∧ W.cell? ⟨b, 2, none⟩ = some (.slice (some ⟨rb, 0, none⟩) n n) ∧ W.cell? ⟨b, 3, none⟩ = some (.int .i64 c)) W2.drew := ⟨HM2d.out.M.w0, by rw [HNN.out]; exact HM2d.out.M.b2, HM2d.out.M.b3⟩
          have hC2 : (fun W => W.cell? ⟨bw, 0, none⟩ = some (.pointer (some ⟨b, 0, none⟩)) ∧ W.cell? ⟨b, 2, none⟩ = some (.slice (some ⟨rb, 0, none⟩) n n) ∧ W.cell? ⟨b, 3, none⟩ = some (.int .i64 c)) (W2.setCell ⟨rb, k, none⟩ (.int .i64 c)).drew := ⟨HM3.out.M.w0, by rw [HNN.out]; exact HM3.out.M.b2, HM3.out.M.b3⟩
          have e3 := HM2.out.1.M.row.c k hkn
          have e5 := HM2.out.1.M.row.f k hkn
          refine Lim.regC' (fun W => W.cell? ⟨bw, 0, none⟩ = some (.pointer (some ⟨b, 0, none⟩)) ∧ W.cell? ⟨b, 2, none⟩ = some (.slice (some ⟨rb, 0, none⟩) n n) ∧ W.cell? ⟨b, 3, none⟩ = some (.int .i64 c)) [] #[false, false, false, false, false, false, false, false, false, false, false] (by kernel_rfl) rfl ?_
          refine Lim.stepR 0 (fun _ => trivial) rfl (by kernel_rfl) (fun _ _ _ _ h => h) hC rfl ?_; apply Exists.intro; refine ⟨?_, ?_⟩
          · rintro w ⟨r1, r2, r3⟩; go_simp; try with_reducible rfl
          simp only [Act.put, List.setIfInBounds_toArray, List.set_cons_succ, List.set_cons_zero]
          refine Lim.stepR 1 (fun _ => trivial) rfl (by kernel_rfl) (fun _ _ _ _ h => h) hC rfl ?_; apply Exists.intro; refine ⟨?_, ?_⟩
          · rintro w ⟨r1, r2, r3⟩; go_simp; try with_reducible rfl
          simp only [Act.put, List.setIfInBounds_toArray, List.set_cons_succ, List.set_cons_zero]
          refine Lim.stepR 2 (fun _ => trivial) rfl (by kernel_rfl) (fun _ _ _ _ h => h) hC rfl ?_; apply Exists.intro; refine ⟨?_, ?_⟩
          · rintro w ⟨r1, r2, r3⟩; go_simp; try with_reducible rfl
          simp only [Act.put, List.setIfInBounds_toArray, List.set_cons_succ, List.set_cons_zero]
          refine Lim.stepR 3 (fun _ => trivial) rfl (by kernel_rfl) (fun _ _ _ _ h => h) hC rfl ?_; apply Exists.intro; refine ⟨?_, ?_⟩
          · rintro w ⟨r1, r2, r3⟩; go_simp; try with_reducible rfl
          simp only [Act.put, List.setIfInBounds_toArray, List.set_cons_succ, List.set_cons_zero]
          refine Lim.stepR 4 (fun _ => trivial) rfl (by kernel_rfl) (fun _ _ _ _ h => h) hC rfl ?_; apply Exists.intro; refine ⟨?_, ?_⟩
          · rintro w ⟨r1, r2, r3⟩; go_simp; try with_reducible rfl
          simp only [Act.put, List.setIfInBounds_toArray, List.set_cons_succ, List.set_cons_zero]
          refine Lim.stepR 5 (fun _ => trivial) rfl (by kernel_rfl) (fun _ _ _ _ h => h) hC rfl ?_; apply Exists.intro; refine ⟨?_, ?_⟩
          · rintro w ⟨r1, r2, r3⟩; go_simp; try with_reducible rfl
          simp only [Act.put, List.setIfInBounds_toArray, List.set_cons_succ, List.set_cons_zero]
          refine Lim.stepR 6 (fun _ => trivial) rfl (by kernel_rfl) (fun _ _ _ _ h => h) hC rfl ?_; apply Exists.intro; refine ⟨?_, ?_⟩
          · rintro w ⟨r1, r2, r3⟩; go_simp; try with_reducible rfl
          simp only [Act.put, List.setIfInBounds_toArray, List.set_cons_succ, List.set_cons_zero]
          refine Lim.stepR 7 (fun _ => trivial) rfl (by kernel_rfl) (fun _ _ _ _ h => h) hC rfl ?_; apply Exists.intro; refine ⟨?_, ?_⟩
          · rintro w ⟨r1, r2, r3⟩; go_simp; try with_reducible rfl
          simp only [Act.put, List.setIfInBounds_toArray, List.set_cons_succ, List.set_cons_zero]
          refine Lim.stepR 8 (fun _ => trivial) rfl (by kernel_rfl) (fun _ _ _ _ h => h) hC rfl ?_; apply Exists.intro; refine ⟨?_, ?_⟩
          · rintro w ⟨r1, r2, r3⟩; go_simp; try with_reducible rfl
          simp only [Act.put, List.setIfInBounds_toArray, List.set_cons_succ, List.set_cons_zero]
          refine Lim.stepR 9 (fun _ => trivial) rfl (by kernel_rfl) (fun _ _ _ _ h => h) hC rfl ?_; apply Exists.intro; refine ⟨?_, ?_⟩
          · rintro w ⟨r1, r2, r3⟩; go_simp; try with_reducible rfl
          simp only [Act.put, List.setIfInBounds_toArray, List.set_cons_succ, List.set_cons_zero]
          refine Lim.stepE 10 (fun _ => trivial) rfl (by kernel_rfl) rfl (fun K hK => ?_)   -- E store
          go_simp
          refine hK _ _ hC2 ?_
          simp only [Act.put, List.setIfInBounds_toArray, List.set_cons_succ, List.set_cons_zero]
          refine Lim.stepD (by kernel_rfl) ?_
          clear hC hC2 e3 e5
          have HMK := Lib.hid (HM2.out.2.1.keep ((KeepsOthers.setCell W2 ⟨rb, k, none⟩ (.int .i64 c)).trans (KeepsOthers.drew _)))
          generalize (W2.setCell ⟨rb, k, none⟩ (.int .i64 c)).drew = W3 at HM3 HMK ⊢
          clear HM2 HM2d W2
          go_wp2_with fail
          refine (put_st (x := k) HM3.out.st (by simp)).mono ?_
          rintro e W4 ⟨rfl, hst, hsep, -⟩
          have HM4 := Lib.hid (HM3.out.put hst hsep (fun j hj => StT.ge HM3.out.st hj))
          have HMK4 := Lib.hid (HMK.out.keep (hsep.keeps (fun j o h1 h2 => StT.cells HM3.out.st j o h1 h2)))
          have HF : Hid (Fill m R (upd R k c) k c [k]) := Lib.hid (Fill.begin HQ.out.1 hkn HR.out.symm)
          have HU : Hid (2 * unN (upd R k c) m.n + [k].length ≤ 201) := Lib.hid (by have := unN_le (upd R k c) m.n; have := HN.out.1; simp; omega)
          clear hst hsep HM3 HMK
          simp only [List.nil_append] at HM4
          go_wp2_with fail
          refine wp_loop_ghost_k (fun mi a' W => ∃ (R' : Nat → Int) (q : List Nat), FrI bm bw n oc k be bs (some ⟨ob, oo, none⟩) a' ∧ Marks S a'.defers W ∧ Hid (OpS w m (some ⟨ob, oo, none⟩) oc bm bw b rb S R' c be bs o q W ∧ Fill m R R' k c q ∧ mi = 2 * unN R' m.n + q.length ∧ mi ≤ 201)) _ ⟨_, [k], rfl, HMK4.out, Lib.hid ⟨HM4.out, HF.out, rfl, HU.out⟩⟩ ?_
          clear HM4 HF HU HMK4 W4 W3
          rintro mi a' W ⟨R', q, hfr, hm, hI⟩ J2 K2 hJ2 hK2
          unfold FrI at hfr
          generalize a'.defers = ds2 at hfr hm
          generalize Lim.sl a' = x at hfr
          subst hfr
          rcases List.eq_nil_or_concat q with rfl | ⟨q0, p, rfl⟩
          · obtain ⟨sa, sc, d0⟩ := hI.out.1.st.len
            have d1 := hI.out.1.M.w0
            have d2 := hI.out.1.M.b3
            have d3 := hI.out.1.M.f3
            have hc64 : (c : Int) < 1000 := by have := HQ.out.2.2.2; omega
            have HL := Lib.hid (hI.out.2.1.done HOK.out.1 HQ.out.1 (show k < m.n by have := HNN.out; omega))
            go_wp2_with fail
            exact .intro (n - (k + 1)) (by have := HQ.out.2.2.1; omega) (hJ _ _ _ ⟨k + 1, c + 1, R', by unfold FrO; rfl, hm.keep (KeepsOthers.setCell W ⟨b, 3, none⟩ _), Lib.hid ⟨hI.out.1.M.setN (c + 1), HL.out, by omega, rfl, by have := HQ.out.2.2.2; omega⟩⟩)
          · rw [List.concat_eq_append] at hI
            obtain ⟨sa, sc, d0⟩ := hI.out.1.st.len
            obtain ⟨L, hL⟩ : ∃ L, L = (q0 ++ [p]).length := ⟨_, rfl⟩
            rw [← hL] at d0
            have hL0 : decide (0 < L) = true := by rw [hL]; simp
            have HLL := Lib.hid hL
            clear hL
            go_upto_region 13 with (fail)
            clear d0 hL0
            have hpn : p < m.n := (hI.out.2.1.wait p (by simp)).1
            have HT := Lib.hid (take_st hI.out.1.st (by have := hI.out.2.2; simp at this; omega))
            have hId := Lib.hid (hI.out.1.below (Below.refl _ W).drew)
            have HTd := Lib.hid (take_st hId.out.st (by have := hI.out.2.2; simp at this; omega))
            have hC : (fun W => W.cell? ⟨bw, 0, none⟩ = some (.pointer (some ⟨b, 0, none⟩)) ∧ W.cell? ⟨b, 0, none⟩ = some (.int .i64 m.wd) ∧ W.cell? ⟨b, 1, none⟩ = some (.slice (some ⟨ob, oo, none⟩) n oc)) W.drew := ⟨hId.out.M.w0, hId.out.M.b0, by rw [HNN.out]; exact hId.out.M.b1⟩
            clear HT
            have HIP := Lib.hid hI.out
            refine Lim.regC' (fun W => W.cell? ⟨bw, 0, none⟩ = some (.pointer (some ⟨b, 0, none⟩)) ∧ W.cell? ⟨b, 0, none⟩ = some (.int .i64 m.wd) ∧ W.cell? ⟨b, 1, none⟩ = some (.slice (some ⟨ob, oo, none⟩) n oc)) [] #[false, false, false, false, false, false] (by kernel_rfl) rfl ?_
            refine Lim.stepR 0 (fun _ => trivial) rfl (by kernel_rfl) (fun _ _ _ _ h => h) hC rfl ?_; apply Exists.intro; refine ⟨?_, ?_⟩
            · rintro w ⟨r1, r2, r3⟩; go_simp; try with_reducible rfl
            simp only [Act.put, List.setIfInBounds_toArray, List.set_cons_succ, List.set_cons_zero]
            refine Lim.stepR 1 (fun _ => trivial) rfl (by kernel_rfl) (fun _ _ _ _ h => h) hC rfl ?_; apply Exists.intro; refine ⟨?_, ?_⟩
            · rintro w ⟨r1, r2, r3⟩; go_simp; try with_reducible rfl
            simp only [Act.put, List.setIfInBounds_toArray, List.set_cons_succ, List.set_cons_zero]
            refine Lim.stepR 2 (fun _ => trivial) rfl (by kernel_rfl) (fun _ _ _ _ h => h) hC rfl ?_; apply Exists.intro; refine ⟨?_, ?_⟩
            · rintro w ⟨r1, r2, r3⟩; go_simp; try with_reducible rfl
            simp only [Act.put, List.setIfInBounds_toArray, List.set_cons_succ, List.set_cons_zero]
            refine Lim.stepR 3 (fun _ => trivial) rfl (by kernel_rfl) (fun _ _ _ _ h => h) hC rfl ?_; apply Exists.intro; refine ⟨?_, ?_⟩
            · rintro w ⟨r1, r2, r3⟩; go_simp; try with_reducible rfl
            simp only [Act.put, List.setIfInBounds_toArray, List.set_cons_succ, List.set_cons_zero]
            refine Lim.stepE 4 (fun _ => trivial) rfl (by kernel_rfl) rfl (fun K hK => ?_)   -- E call
            go_simp
            refine ⟨rfl, (callsIn_wide.2 HTd.out).mono ?_⟩
            rintro e W5 ⟨rfl, hst, hsep, hsub⟩
            have HM5 := Lib.hid (hId.out.put hst hsep (fun j hj => by rw [hj]; exact Nat.le_refl _))
            have hC5 : (fun W => W.cell? ⟨bw, 0, none⟩ = some (.pointer (some ⟨b, 0, none⟩)) ∧ W.cell? ⟨b, 0, none⟩ = some (.int .i64 m.wd) ∧ W.cell? ⟨b, 1, none⟩ = some (.slice (some ⟨ob, oo, none⟩) n oc)) W5 := ⟨HM5.out.M.w0, HM5.out.M.b0, by rw [HNN.out]; exact HM5.out.M.b1⟩
            have HMK5 := Lib.hid ((hm.keep (KeepsOthers.drew W)).keep (hsep.keeps (fun j o h1 h2 => StT.cells hId.out.st j o (by rw [h1]; exact .inl rfl) h2)))
            refine hK _ _ hC5 ?_
            simp only [Act.put, List.setIfInBounds_toArray, List.set_cons_succ, List.set_cons_zero]
            refine Lim.stepE 5 (fun _ => trivial) rfl (by kernel_rfl) rfl (fun K hK => ?_)   -- E call
            go_simp
            refine ⟨rfl, (callsIn_wide.2 (neighbours_any _ _ _ _ ⟨_, _, _, rfl⟩)).mono ?_⟩
            rintro e W6 ⟨rfl, rfl⟩
            have hB6 := nbrW_below W5 #[.int .i64 m.wd, .slice (some ⟨ob, oo, none⟩) n oc] (.int .i64 p) 25 3
            have HN6 := Lib.hid (Ne.made (wd := m.wd) (N := n) (cap := oc) (c := p) (ha := some ⟨ob, oo, none⟩) W5)
            have HM6 := Lib.hid (And.intro (HM5.out.below hB6) (And.intro (HMK5.out.keep (keeps_of_below hB6)) (And.intro (show W5.heap.size + 2 = ((W5.alloc (.cells #[.int .i64 m.wd, .slice (some ⟨ob, oo, none⟩) n oc] 25)).alloc (.cells #[.int .i64 p] 3)).heap.size by simp) (And.intro ((HM5.out.st.apart (W5.heap.size + 2)).sep HM5.out.st (T := fun _ => False) (Sep.of_below hB6) (fun h => h.elim)) HM5.out.lt))))
            have hC6 : (fun W => W.cell? ⟨bw, 0, none⟩ = some (.pointer (some ⟨b, 0, none⟩)) ∧ W.cell? ⟨b, 0, none⟩ = some (.int .i64 m.wd) ∧ W.cell? ⟨b, 1, none⟩ = some (.slice (some ⟨ob, oo, none⟩) n oc)) ((W5.alloc (.cells #[.int .i64 m.wd, .slice (some ⟨ob, oo, none⟩) n oc] 25)).alloc (.cells #[.int .i64 p] 3)) := ⟨hB6.on hC5.1, hB6.on hC5.2.1, hB6.on hC5.2.2⟩
            refine hK _ _ hC6 ?_
            simp only [Act.put, List.setIfInBounds_toArray, List.set_cons_succ, List.set_cons_zero]
            refine Lim.stepD (by kernel_rfl) ?_
            clear hC hC5 hC6 hm hI HTd hId
            generalize (W5.alloc (.cells #[.int .i64 m.wd, .slice (some ⟨ob, oo, none⟩) n oc] 25)).alloc (.cells #[.int .i64 p] 3) = W6 at HN6 HM6 hB6 ⊢
            obtain ⟨bq, hbq⟩ : ∃ x, x = W5.heap.size := ⟨_, rfl⟩
            rw [← hbq] at HN6 HM6 ⊢
            clear hbq hB6 HM5 HMK5 hst hsep hsub
            go_wp2_with fail
            have HJ := Lib.hid (And.intro hJ2 hK2)
            clear hJ2 hK2 hJ hK
            refine wp_range (xs := nbrL m.wd n p) rfl (enters_of Try.func132 (by kernel_rfl) rfl) (Ne bq (bq + 1) m.wd n oc p (some ⟨ob, oo, none⟩))
              (nbr_iter HOK.out.1.w0 (Nat.le_trans HOK.out.1.wn HOK.out.1.n1) (by have := HNN.out; have := HN.out.1; omega) (by have := HN.out.1; omega) HN6.out)
              (fun pre W' => ∃ (R2 : Nat → Int) (q2 : List Nat), Hid (FMid m R R2 k c q2 p pre ∧ 2 * unN R2 m.n + q2.length < mi) ∧ Hid (OpS w m (some ⟨ob, oo, none⟩) oc bm bw b rb S R2 c be bs o q2 W') ∧ Hid (MarksLt S W6.heap.size ds2 W') ∧ Hid (StA bs bq (bq + 2) W') ∧ Ne bq (bq + 1) m.wd n oc p (some ⟨ob, oo, none⟩) W')
              (fun _ _ _ => False) (fun _ _ h => by obtain ⟨_, _, _, _, _, _, h⟩ := h; exact h) (fun _ _ h hs => h.steady hs) ?sI (fun _ _ _ _ h _ => h)
              ⟨R', q0, Lib.hid ⟨HIP.out.2.1.pop, by have := HIP.out.2.2.1; simp at this; omega⟩, Lib.hid HM6.out.1, Lib.hid (MarksLt.of_marks HM6.out.2.1), Lib.hid HM6.out.2.2.2.1, HN6.out⟩ ?a1 ?assign ?body ?done ?stop
            case sI =>
              rintro _ _ _ ⟨R2, q2, h1, h2, h3, h4, h5⟩ hs
              have hle := HM6.out.2.2.1
              have hlt := HM6.out.1.M.be.size
              exact ⟨R2, q2, h1, Lib.hid (h2.out.steady hs hlt), Lib.hid (h3.out.steady hs), Lib.hid (h4.out.steady h2.out.st hs), h5.steady hs⟩
            case a1 => exact fun z => { tmps := #[x 0, .pointer (some ⟨bm, 0, none⟩), .pointer none, .int .i64 0, x 4, .pointer (some ⟨bw, 0, none⟩), .int .i64 k, .pointer (some ⟨be, 0, none⟩), .pointer (some ⟨bs, 0, none⟩), .int .i64 z, x 10, x 11, x 12, x 13, x 14, x 15, x 16, x 17, x 18, x 19, x 20, x 21, x 22, x 23, .slice (some ⟨ob, oo, none⟩) n oc, .int .i64 n, .int .i64 k, x 27, x 28, x 29, x 30, x 31, x 32, x 33, x 34, x 35, x 36, x 37, x 38, x 39, x 40, x 41, x 42, x 43, x 44, x 45, x 46, x 47, x 48, x 49, x 50, .pointer (some ⟨bs, 0, none⟩), .slice sa L sc, .int .i64 L, .bool true, .pointer (some ⟨b, 0, none⟩), .pointer (some ⟨b, 0, none⟩), .pointer (some ⟨b, 0, none⟩), .agg #[.int .i64 m.wd, .slice (some ⟨ob, oo, none⟩) n oc], .int .i64 p, .func (.func 132) #[] #[.pointer (some ⟨bq + 1, 0, none⟩), .pointer (some ⟨bq, 0, none⟩)], .int .i64 z, x 62, x 63, x 64, x 65, x 66, x 67, x 68, x 69, x 70, x 71, x 72, x 73, x 74, x 75, x 76, x 77, x 78, x 79, x 80, x 81, x 82, x 83, x 84, x 85, x 86, x 87, x 88, x 89, x 90, x 91, x 92, x 93, x 94, x 95, x 96, x 97, x 98, x 99], defers := [] }
            case assign =>
              intro l z W' K hK
              gi_wp2
              exact hK
            case stop => rintro _ _ _ _ _ _ h; exact h.elim
            case done =>
              rintro D W' hD ⟨R2, q2, h1, h2, h3, h4, h5⟩ hk
              refine HJ.out.2 _ _ ?_
              exact .intro _ h1.out.2 (HJ.out.1 _ _ _ ⟨R2, q2, by unfold FrI; rfl, h3.out.cons (by have := HM6.out.1.le; have := HM6.out.2.2; omega) hD hk, Lib.hid ⟨h2.out, FMid.done (by rw [← HNN.out]; exact h1.out.1), rfl, by have := h1.out.2; have := HIP.out.2.2.2; omega⟩⟩)
            case body =>
              rintro l pre z W' hx ⟨R2, q2, h1, h2, h3, h4, h5⟩
              obtain ⟨j, rfl, hjn⟩ := mem_nbrL (N := n) HOK.out.1.w0 (by rw [HNN.out]; exact HOK.out.1.dv) (by rw [HNN.out]; exact hpn) hx
              have HNB : Hid (nb m p j) := Lib.hid (by show (j : Int) ∈ nbrL m.wd m.n p; rw [← HNN.out]; exact hx)
              have hjm : j < m.n := by rw [← HNN.out]; exact hjn
              have hj64 : (j : Int) < 100 := by have := HN.out.1; omega
              obtain ⟨r, hr⟩ : ∃ r, r = R2 j := ⟨_, rfl⟩
              obtain ⟨oj, hoj⟩ : ∃ oj, oj = m.os.getD j 0 := ⟨_, rfl⟩
              have hb2 : W'.cell? ⟨b, 2, none⟩ = some (.slice (some ⟨rb, 0, none⟩) n n) := by rw [HNN.out]; exact h2.out.M.b2
              have hm1 : W'.cell? ⟨bm, 1, none⟩ = some (.slice (some ⟨ob, oo, none⟩) n oc) := by rw [HNN.out]; exact h2.out.M.m1
              have hos : W'.cell? ⟨ob, oo + j, none⟩ = some (.int .i64 oj) := by rw [hoj]; exact cell_below h2.out.M.be (HCL.out.1 j _ (ints_at' _ _ hjm)) (by have := HA.out.2.1; have := HCL.out.2; show ob < _; omega)
              have hrw : W'.cell? ⟨rb, j, none⟩ = some (.int .i64 r) := by rw [hr]; exact h2.out.M.row.c j hjm
              have hC : (fun W => W.cell? ⟨bw, 0, none⟩ = some (.pointer (some ⟨b, 0, none⟩)) ∧ W.cell? ⟨b, 2, none⟩ = some (.slice (some ⟨rb, 0, none⟩) n n) ∧ W.cell? ⟨rb, j, none⟩ = some (.int .i64 r) ∧ W.cell? ⟨bm, 1, none⟩ = some (.slice (some ⟨ob, oo, none⟩) n oc) ∧ W.cell? ⟨ob, oo + j, none⟩ = some (.int .i64 oj) ∧ W.cell? ⟨be, 0, none⟩ = some (.int .i64 o)) W'.drew := ⟨h2.out.M.w0, hb2, hrw, hm1, hos, h2.out.ow⟩
              have HRJ := Lib.hid hr
              have HOJ := Lib.hid hoj
              have HOP : Hid (m.own p = o) := Lib.hid (by rw [HO.out]; exact (h1.out.1.sm HQ.out.1).1.own)
              clear hr hoj hb2 hm1 hos hrw hx
              refine wpIn_block ?_
              gi_wp2_with fail
              by_cases hr1 : r = -1
              · subst hr1
                by_cases ho1 : oj = o
                · subst ho1
                  refine Lim.regC (fun W => W.cell? ⟨bw, 0, none⟩ = some (.pointer (some ⟨b, 0, none⟩)) ∧ W.cell? ⟨b, 2, none⟩ = some (.slice (some ⟨rb, 0, none⟩) n n) ∧ W.cell? ⟨rb, j, none⟩ = some (.int .i64 (-1)) ∧ W.cell? ⟨bm, 1, none⟩ = some (.slice (some ⟨ob, oo, none⟩) n oc) ∧ W.cell? ⟨ob, oo + j, none⟩ = some (.int .i64 oj) ∧ W.cell? ⟨be, 0, none⟩ = some (.int .i64 oj)) [] #[false, false, false, false, false, false, false, false, false, false, false, false, false, false, false, false, false] (by kernel_rfl) rfl ?_
                  refine Lim.stepR 0 (fun _ => trivial) rfl (by kernel_rfl) (fun _ _ _ _ h => h) hC rfl ?_; apply Exists.intro; refine ⟨?_, ?_⟩
                  · rintro w ⟨r1, r2, r3, r4, r5, r6⟩; go_simp; try with_reducible rfl
                  simp only [Act.put, List.setIfInBounds_toArray, List.set_cons_succ, List.set_cons_zero]
                  refine Lim.stepR 1 (fun _ => trivial) rfl (by kernel_rfl) (fun _ _ _ _ h => h) hC rfl ?_; apply Exists.intro; refine ⟨?_, ?_⟩
                  · rintro w ⟨r1, r2, r3, r4, r5, r6⟩; go_simp; try with_reducible rfl
                  simp only [Act.put, List.setIfInBounds_toArray, List.set_cons_succ, List.set_cons_zero]
                  refine Lim.stepR 2 (fun _ => trivial) rfl (by kernel_rfl) (fun _ _ _ _ h => h) hC rfl ?_; apply Exists.intro; refine ⟨?_, ?_⟩
                  · rintro w ⟨r1, r2, r3, r4, r5, r6⟩; go_simp; try with_reducible rfl
                  simp only [Act.put, List.setIfInBounds_toArray, List.set_cons_succ, List.set_cons_zero]
                  refine Lim.stepR 3 (fun _ => trivial) rfl (by kernel_rfl) (fun _ _ _ _ h => h) hC rfl ?_; apply Exists.intro; refine ⟨?_, ?_⟩
                  · rintro w ⟨r1, r2, r3, r4, r5, r6⟩; go_simp; try with_reducible rfl
                  simp only [Act.put, List.setIfInBounds_toArray, List.set_cons_succ, List.set_cons_zero]
                  refine Lim.stepR 4 (fun _ => trivial) rfl (by kernel_rfl) (fun _ _ _ _ h => h) hC rfl ?_; apply Exists.intro; refine ⟨?_, ?_⟩
                  · rintro w ⟨r1, r2, r3, r4, r5, r6⟩; go_simp; try with_reducible rfl
                  simp only [Act.put, List.setIfInBounds_toArray, List.set_cons_succ, List.set_cons_zero]
                  refine Lim.stepR 5 (fun _ => trivial) rfl (by kernel_rfl) (fun _ _ _ _ h => h) hC rfl ?_; apply Exists.intro; refine ⟨?_, ?_⟩
                  · rintro w ⟨r1, r2, r3, r4, r5, r6⟩; go_simp; try with_reducible rfl
                  simp only [Act.put, List.setIfInBounds_toArray, List.set_cons_succ, List.set_cons_zero]
                  refine Lim.stepR 6 (fun _ => trivial) rfl (by kernel_rfl) (fun _ _ _ _ h => h) hC rfl ?_; apply Exists.intro; refine ⟨?_, ?_⟩
                  · rintro w ⟨r1, r2, r3, r4, r5, r6⟩; go_simp; try with_reducible rfl
                  simp only [Act.put, List.setIfInBounds_toArray, List.set_cons_succ, List.set_cons_zero]
                  refine Lim.stepR 7 (fun _ => trivial) rfl (by kernel_rfl) (fun _ _ _ _ h => h) hC rfl ?_; apply Exists.intro; refine ⟨?_, ?_⟩
                  · rintro w ⟨r1, r2, r3, r4, r5, r6⟩; go_simp; try with_reducible rfl
                  simp only [Act.put, List.setIfInBounds_toArray, List.set_cons_succ, List.set_cons_zero]
                  refine Lim.stepR 8 (fun _ => trivial) rfl (by kernel_rfl) (fun _ _ _ _ h => h) hC rfl ?_; apply Exists.intro; refine ⟨?_, ?_⟩
                  · rintro w ⟨r1, r2, r3, r4, r5, r6⟩; go_simp; try with_reducible rfl
                  simp only [Act.put, List.setIfInBounds_toArray, List.set_cons_succ, List.set_cons_zero]
                  refine Lim.stepR 9 (fun _ => trivial) rfl (by kernel_rfl) (fun _ _ _ _ h => h) hC rfl ?_; apply Exists.intro; refine ⟨?_, ?_⟩
                  · rintro w ⟨r1, r2, r3, r4, r5, r6⟩; go_simp; try with_reducible rfl
                  simp only [Act.put, List.setIfInBounds_toArray, List.set_cons_succ, List.set_cons_zero]
                  refine Lim.stepR 10 (fun _ => trivial) rfl (by kernel_rfl) (fun _ _ _ _ h => h) hC rfl ?_; apply Exists.intro; refine ⟨?_, ?_⟩
                  · rintro w ⟨r1, r2, r3, r4, r5, r6⟩; go_simp; try with_reducible rfl
                  simp only [Act.put, List.setIfInBounds_toArray, List.set_cons_succ, List.set_cons_zero]
                  refine Lim.stepR 11 (fun _ => trivial) rfl (by kernel_rfl) (fun _ _ _ _ h => h) hC rfl ?_; apply Exists.intro; refine ⟨?_, ?_⟩
                  · rintro w ⟨r1, r2, r3, r4, r5, r6⟩; go_simp; try with_reducible rfl
                  simp only [Act.put, List.setIfInBounds_toArray, List.set_cons_succ, List.set_cons_zero]
                  refine Lim.stepR 12 (fun _ => trivial) rfl (by kernel_rfl) (fun _ _ _ _ h => h) hC rfl ?_; apply Exists.intro; refine ⟨?_, ?_⟩
                  · rintro w ⟨r1, r2, r3, r4, r5, r6⟩; go_simp; try with_reducible rfl
                  simp only [Act.put, List.setIfInBounds_toArray, List.set_cons_succ, List.set_cons_zero]
                  refine Lim.stepR 13 (fun _ => trivial) rfl (by kernel_rfl) (fun _ _ _ _ h => h) hC rfl ?_; apply Exists.intro; refine ⟨?_, ?_⟩
                  · rintro w ⟨r1, r2, r3, r4, r5, r6⟩; go_simp; try with_reducible rfl
                  simp only [Act.put, List.setIfInBounds_toArray, List.set_cons_succ, List.set_cons_zero]
                  refine Lim.stepR 14 (fun _ => trivial) rfl (by kernel_rfl) (fun _ _ _ _ h => h) hC rfl ?_; apply Exists.intro; refine ⟨?_, ?_⟩
                  · rintro w ⟨r1, r2, r3, r4, r5, r6⟩; go_simp; try with_reducible rfl
                  simp only [Act.put, List.setIfInBounds_toArray, List.set_cons_succ, List.set_cons_zero]
                  refine Lim.stepR 15 (fun _ => trivial) rfl (by kernel_rfl) (fun _ _ _ _ h => h) hC rfl ?_; apply Exists.intro; refine ⟨?_, ?_⟩
                  · rintro w ⟨r1, r2, r3, r4, r5, r6⟩; go_simp; try with_reducible rfl
                  simp only [Act.put, List.setIfInBounds_toArray, List.set_cons_succ, List.set_cons_zero]
                  refine Lim.stepR 16 (fun _ => trivial) rfl (by kernel_rfl) (fun _ _ _ _ h => h) hC rfl ?_; apply Exists.intro; refine ⟨?_, ?_⟩
                  · rintro w ⟨r1, r2, r3, r4, r5, r6⟩; go_simp; try with_reducible rfl
                  simp only [Act.put, List.setIfInBounds_toArray, List.set_cons_succ, List.set_cons_zero]
                  refine Lim.stepD (by kernel_rfl) ?_
                  clear hC
                  have HM7 : Hid (OpS w m (some ⟨ob, oo, none⟩) oc bm bw b rb S R2 c be bs oj q2 W'.drew ∧ KeepsOthers W' W'.drew ∧ StA bs bq (bq + 2) W'.drew ∧ Ne bq (bq + 1) m.wd n oc p (some ⟨ob, oo, none⟩) W'.drew) := Lib.hid ⟨h2.out.below (Below.refl _ W').drew, KeepsOthers.drew W', h4.out.sep h2.out.st (T := fun _ => False) (Sep.drew W') (fun h => h.elim), h5.below (Below.refl _ W').drew⟩
                  generalize W'.drew = W8 at HM7 ⊢
                  have HM8 : Hid (OpS w m (some ⟨ob, oo, none⟩) oc bm bw b rb S (upd R2 j c) c be bs oj q2 (W8.setCell ⟨rb, j, none⟩ (.int .i64 c)).drew) := Lib.hid ((HM7.out.1.setR hjm c).below (Below.refl _ _).drew)
                  have hC : (fun W => W.cell? ⟨bw, 0, none⟩ = some (.pointer (some ⟨b, 0, none⟩)) ∧ W.cell? ⟨b, 2, none⟩ = some (.slice (some ⟨rb, 0, none⟩) n n) ∧ W.cell? ⟨b, 3, none⟩ = some (.int .i64 c)) W8.drew := ⟨HM7.out.1.M.w0, by rw [HNN.out]; exact HM7.out.1.M.b2, HM7.out.1.M.b3⟩
                  have hC2 : (fun W => W.cell? ⟨bw, 0, none⟩ = some (.pointer (some ⟨b, 0, none⟩)) ∧ W.cell? ⟨b, 2, none⟩ = some (.slice (some ⟨rb, 0, none⟩) n n) ∧ W.cell? ⟨b, 3, none⟩ = some (.int .i64 c)) (W8.setCell ⟨rb, j, none⟩ (.int .i64 c)).drew := ⟨HM8.out.M.w0, by rw [HNN.out]; exact HM8.out.M.b2, HM8.out.M.b3⟩
                  have e3 := HM7.out.1.M.row.c j hjm
                  have e5 := HM7.out.1.M.row.f j hjm
                  rw [← HRJ.out] at e3
                  gi_wp2_with fail
                  refine Lim.regC (fun W => W.cell? ⟨bw, 0, none⟩ = some (.pointer (some ⟨b, 0, none⟩)) ∧ W.cell? ⟨b, 2, none⟩ = some (.slice (some ⟨rb, 0, none⟩) n n) ∧ W.cell? ⟨b, 3, none⟩ = some (.int .i64 c)) [] #[false, false, false, false, false, false, false, false, false, false, false] (by kernel_rfl) rfl ?_
                  refine Lim.stepR 0 (fun _ => trivial) rfl (by kernel_rfl) (fun _ _ _ _ h => h) hC rfl ?_; apply Exists.intro; refine ⟨?_, ?_⟩
                  · rintro w ⟨r1, r2, r3⟩; go_simp; try with_reducible rfl
                  simp only [Act.put, List.setIfInBounds_toArray, List.set_cons_succ, List.set_cons_zero]
                  refine Lim.stepR 1 (fun _ => trivial) rfl (by kernel_rfl) (fun _ _ _ _ h => h) hC rfl ?_; apply Exists.intro; refine ⟨?_, ?_⟩
                  · rintro w ⟨r1, r2, r3⟩; go_simp; try with_reducible rfl
                  simp only [Act.put, List.setIfInBounds_toArray, List.set_cons_succ, List.set_cons_zero]
                  refine Lim.stepR 2 (fun _ => trivial) rfl (by kernel_rfl) (fun _ _ _ _ h => h) hC rfl ?_; apply Exists.intro; refine ⟨?_, ?_⟩
                  · rintro w ⟨r1, r2, r3⟩; go_simp; try with_reducible rfl
                  simp only [Act.put, List.setIfInBounds_toArray, List.set_cons_succ, List.set_cons_zero]
                  refine Lim.stepR 3 (fun _ => trivial) rfl (by kernel_rfl) (fun _ _ _ _ h => h) hC rfl ?_; apply Exists.intro; refine ⟨?_, ?_⟩
                  · rintro w ⟨r1, r2, r3⟩; go_simp; try with_reducible rfl
                  simp only [Act.put, List.setIfInBounds_toArray, List.set_cons_succ, List.set_cons_zero]
                  refine Lim.stepR 4 (fun _ => trivial) rfl (by kernel_rfl) (fun _ _ _ _ h => h) hC rfl ?_; apply Exists.intro; refine ⟨?_, ?_⟩
                  · rintro w ⟨r1, r2, r3⟩; go_simp; try with_reducible rfl
                  simp only [Act.put, List.setIfInBounds_toArray, List.set_cons_succ, List.set_cons_zero]
                  refine Lim.stepR 5 (fun _ => trivial) rfl (by kernel_rfl) (fun _ _ _ _ h => h) hC rfl ?_; apply Exists.intro; refine ⟨?_, ?_⟩
                  · rintro w ⟨r1, r2, r3⟩; go_simp; try with_reducible rfl
                  simp only [Act.put, List.setIfInBounds_toArray, List.set_cons_succ, List.set_cons_zero]
                  refine Lim.stepR 6 (fun _ => trivial) rfl (by kernel_rfl) (fun _ _ _ _ h => h) hC rfl ?_; apply Exists.intro; refine ⟨?_, ?_⟩
                  · rintro w ⟨r1, r2, r3⟩; go_simp; try with_reducible rfl
                  simp only [Act.put, List.setIfInBounds_toArray, List.set_cons_succ, List.set_cons_zero]
                  refine Lim.stepR 7 (fun _ => trivial) rfl (by kernel_rfl) (fun _ _ _ _ h => h) hC rfl ?_; apply Exists.intro; refine ⟨?_, ?_⟩
                  · rintro w ⟨r1, r2, r3⟩; go_simp; try with_reducible rfl
                  simp only [Act.put, List.setIfInBounds_toArray, List.set_cons_succ, List.set_cons_zero]
                  refine Lim.stepR 8 (fun _ => trivial) rfl (by kernel_rfl) (fun _ _ _ _ h => h) hC rfl ?_; apply Exists.intro; refine ⟨?_, ?_⟩
                  · rintro w ⟨r1, r2, r3⟩; go_simp; try with_reducible rfl
                  simp only [Act.put, List.setIfInBounds_toArray, List.set_cons_succ, List.set_cons_zero]
                  refine Lim.stepR 9 (fun _ => trivial) rfl (by kernel_rfl) (fun _ _ _ _ h => h) hC rfl ?_; apply Exists.intro; refine ⟨?_, ?_⟩
                  · rintro w ⟨r1, r2, r3⟩; go_simp; try with_reducible rfl
                  simp only [Act.put, List.setIfInBounds_toArray, List.set_cons_succ, List.set_cons_zero]
                  refine Lim.stepE 10 (fun _ => trivial) rfl (by kernel_rfl) rfl (fun K hK => ?_)   -- E store
                  go_simp
                  refine hK _ _ hC2 ?_
                  simp only [Act.put, List.setIfInBounds_toArray, List.set_cons_succ, List.set_cons_zero]
                  refine Lim.stepD (by kernel_rfl) ?_
                  clear hC hC2 e3 e5
                  have hs8 : Sep (fun k => k = rb) W8 (W8.setCell ⟨rb, j, none⟩ (.int .i64 c)).drew := (Sep.set W8 rb j (.int .i64 c)).trans (Sep.drew _)
                  have hl8 := HM7.out.1.M.lt
                  have hle := HM7.out.1.le
                  have hq8 := HM6.out.2.2
                  have HK8 : Hid (KeepsOthers W' (W8.setCell ⟨rb, j, none⟩ (.int .i64 c)).drew ∧ StA bs bq (bq + 2) (W8.setCell ⟨rb, j, none⟩ (.int .i64 c)).drew ∧ Ne bq (bq + 1) m.wd n oc p (some ⟨ob, oo, none⟩) (W8.setCell ⟨rb, j, none⟩ (.int .i64 c)).drew) :=
                    Lib.hid ⟨(HM7.out.2.1.trans (KeepsOthers.setCell _ ⟨rb, j, none⟩ _)).trans (KeepsOthers.drew _), HM7.out.2.2.1.sep HM7.out.1.st hs8 (by omega), hs8.cell HM7.out.2.2.2.1 (by omega), hs8.cell HM7.out.2.2.2.2.1 (by omega), hs8.cell HM7.out.2.2.2.2.2 (by omega)⟩
                  generalize (W8.setCell ⟨rb, j, none⟩ (.int .i64 c)).drew = W9 at HM8 HK8 ⊢
                  clear hs8 hl8 hle hq8 HM7 W8
                  gi_wp2_with fail
                  refine ⟨trivial, rfl, ?_⟩
                  refine ((callsIn_wide.2 (put_st (x := j) HM8.out.st (by have := h1.out.2; have := HIP.out.2.2.2; omega))).inRound l).mono ?_
                  rintro e WA ⟨rfl, hst, hsep, hnew⟩
                  have HMA := Lib.hid (HM8.out.put hst hsep (fun j hj => StT.ge HM8.out.st hj))
                  have hKA : KeepsOthers W' WA := HK8.out.1.trans (hsep.keeps (fun j o h1 h2 => StT.cells HM8.out.st j o h1 h2))
                  have hN : ∀ k, StT bs W9 k → k ≠ bq ∧ k ≠ bq + 1 := fun k hk => by
                    have := StT.apart HK8.out.2.1 HM6.out.2.2.2.2 hk
                    omega
                  have hnb : ∀ x, x = bq ∨ x = bq + 1 → ¬ StT bs W9 x := fun x hx hk => by have := hN x hk; omega
                  have HFIN : Hid (KeepsOthers W' WA ∧ StA bs bq (bq + 2) WA ∧ Ne bq (bq + 1) m.wd n oc p (some ⟨ob, oo, none⟩) WA ∧ 2 * unN (upd R2 j c) m.n + (q2 ++ [j]).length < mi) := by
                    refine Lib.hid ⟨hKA, fun u g hu hg => ?_, ⟨hsep.cell HK8.out.2.2.1 (hnb _ (.inl rfl)), hsep.cell HK8.out.2.2.2.1 (hnb _ (.inl rfl)), hsep.cell HK8.out.2.2.2.2 (hnb _ (.inr rfl))⟩, ?_⟩
                    · rcases hnew g (.inr ⟨u, hu, hg⟩) with h | h
                      · exact StT.apart HK8.out.2.1 HM6.out.2.2.2.2 h
                      · have hq9 := World.block_lt_of_cell? _ _ HK8.out.2.2.2.2
                        have hq9 : bq + 1 < W9.heap.size := hq9
                        exact .inr (by omega)
                    · have := unN_upd (v := (c : Int)) HRJ.out.symm (by omega) m.n hjm
                      have := h1.out.2
                      simp; omega
                  clear hKA hN hnb hst hsep hnew
                  gi_wp2_with fail
                  exact ⟨HFIN.out.1.from _, upd R2 j c, q2 ++ [j], Lib.hid ⟨h1.out.1.add HOK.out.1 HQ.out.1 HNB.out (by rw [HOP.out]; exact HOJ.out.symm) HRJ.out.symm, HFIN.out.2.2.2⟩, HMA, Lib.hid (h3.out.keeps HFIN.out.1), Lib.hid HFIN.out.2.1, HFIN.out.2.2.1⟩
                · have g2 : (oj == o) = false := by simpa using ho1
                  refine Lim.regC (fun W => W.cell? ⟨bw, 0, none⟩ = some (.pointer (some ⟨b, 0, none⟩)) ∧ W.cell? ⟨b, 2, none⟩ = some (.slice (some ⟨rb, 0, none⟩) n n) ∧ W.cell? ⟨rb, j, none⟩ = some (.int .i64 (-1)) ∧ W.cell? ⟨bm, 1, none⟩ = some (.slice (some ⟨ob, oo, none⟩) n oc) ∧ W.cell? ⟨ob, oo + j, none⟩ = some (.int .i64 oj) ∧ W.cell? ⟨be, 0, none⟩ = some (.int .i64 o)) [] #[false, false, false, false, false, false, false, false, false, false, false, false, false, false, false, false, false] (by kernel_rfl) rfl ?_
                  refine Lim.stepR 0 (fun _ => trivial) rfl (by kernel_rfl) (fun _ _ _ _ h => h) hC rfl ?_; apply Exists.intro; refine ⟨?_, ?_⟩
                  · rintro w ⟨r1, r2, r3, r4, r5, r6⟩; go_simp; try with_reducible rfl
                  simp only [Act.put, List.setIfInBounds_toArray, List.set_cons_succ, List.set_cons_zero]
                  refine Lim.stepR 1 (fun _ => trivial) rfl (by kernel_rfl) (fun _ _ _ _ h => h) hC rfl ?_; apply Exists.intro; refine ⟨?_, ?_⟩
                  · rintro w ⟨r1, r2, r3, r4, r5, r6⟩; go_simp; try with_reducible rfl
                  simp only [Act.put, List.setIfInBounds_toArray, List.set_cons_succ, List.set_cons_zero]
                  refine Lim.stepR 2 (fun _ => trivial) rfl (by kernel_rfl) (fun _ _ _ _ h => h) hC rfl ?_; apply Exists.intro; refine ⟨?_, ?_⟩
                  · rintro w ⟨r1, r2, r3, r4, r5, r6⟩; go_simp; try with_reducible rfl
                  simp only [Act.put, List.setIfInBounds_toArray, List.set_cons_succ, List.set_cons_zero]
                  refine Lim.stepR 3 (fun _ => trivial) rfl (by kernel_rfl) (fun _ _ _ _ h => h) hC rfl ?_; apply Exists.intro; refine ⟨?_, ?_⟩
                  · rintro w ⟨r1, r2, r3, r4, r5, r6⟩; go_simp; try with_reducible rfl
                  simp only [Act.put, List.setIfInBounds_toArray, List.set_cons_succ, List.set_cons_zero]
                  refine Lim.stepR 4 (fun _ => trivial) rfl (by kernel_rfl) (fun _ _ _ _ h => h) hC rfl ?_; apply Exists.intro; refine ⟨?_, ?_⟩
                  · rintro w ⟨r1, r2, r3, r4, r5, r6⟩; go_simp; try with_reducible rfl
                  simp only [Act.put, List.setIfInBounds_toArray, List.set_cons_succ, List.set_cons_zero]
                  refine Lim.stepR 5 (fun _ => trivial) rfl (by kernel_rfl) (fun _ _ _ _ h => h) hC rfl ?_; apply Exists.intro; refine ⟨?_, ?_⟩
                  · rintro w ⟨r1, r2, r3, r4, r5, r6⟩; go_simp; try with_reducible rfl
                  simp only [Act.put, List.setIfInBounds_toArray, List.set_cons_succ, List.set_cons_zero]
                  refine Lim.stepR 6 (fun _ => trivial) rfl (by kernel_rfl) (fun _ _ _ _ h => h) hC rfl ?_; apply Exists.intro; refine ⟨?_, ?_⟩
                  · rintro w ⟨r1, r2, r3, r4, r5, r6⟩; go_simp; try with_reducible rfl
                  simp only [Act.put, List.setIfInBounds_toArray, List.set_cons_succ, List.set_cons_zero]
                  refine Lim.stepR 7 (fun _ => trivial) rfl (by kernel_rfl) (fun _ _ _ _ h => h) hC rfl ?_; apply Exists.intro; refine ⟨?_, ?_⟩
                  · rintro w ⟨r1, r2, r3, r4, r5, r6⟩; go_simp; try with_reducible rfl
                  simp only [Act.put, List.setIfInBounds_toArray, List.set_cons_succ, List.set_cons_zero]
                  refine Lim.stepR 8 (fun _ => trivial) rfl (by kernel_rfl) (fun _ _ _ _ h => h) hC rfl ?_; apply Exists.intro; refine ⟨?_, ?_⟩
                  · rintro w ⟨r1, r2, r3, r4, r5, r6⟩; go_simp; try with_reducible rfl
                  simp only [Act.put, List.setIfInBounds_toArray, List.set_cons_succ, List.set_cons_zero]
                  refine Lim.stepR 9 (fun _ => trivial) rfl (by kernel_rfl) (fun _ _ _ _ h => h) hC rfl ?_; apply Exists.intro; refine ⟨?_, ?_⟩
                  · rintro w ⟨r1, r2, r3, r4, r5, r6⟩; go_simp; try with_reducible rfl
                  simp only [Act.put, List.setIfInBounds_toArray, List.set_cons_succ, List.set_cons_zero]
                  refine Lim.stepR 10 (fun _ => trivial) rfl (by kernel_rfl) (fun _ _ _ _ h => h) hC rfl ?_; apply Exists.intro; refine ⟨?_, ?_⟩
                  · rintro w ⟨r1, r2, r3, r4, r5, r6⟩; go_simp; try with_reducible rfl
                  simp only [Act.put, List.setIfInBounds_toArray, List.set_cons_succ, List.set_cons_zero]
                  refine Lim.stepR 11 (fun _ => trivial) rfl (by kernel_rfl) (fun _ _ _ _ h => h) hC rfl ?_; apply Exists.intro; refine ⟨?_, ?_⟩
                  · rintro w ⟨r1, r2, r3, r4, r5, r6⟩; go_simp; try with_reducible rfl
                  simp only [Act.put, List.setIfInBounds_toArray, List.set_cons_succ, List.set_cons_zero]
                  refine Lim.stepR 12 (fun _ => trivial) rfl (by kernel_rfl) (fun _ _ _ _ h => h) hC rfl ?_; apply Exists.intro; refine ⟨?_, ?_⟩
                  · rintro w ⟨r1, r2, r3, r4, r5, r6⟩; go_simp; try with_reducible rfl
                  simp only [Act.put, List.setIfInBounds_toArray, List.set_cons_succ, List.set_cons_zero]
                  refine Lim.stepR 13 (fun _ => trivial) rfl (by kernel_rfl) (fun _ _ _ _ h => h) hC rfl ?_; apply Exists.intro; refine ⟨?_, ?_⟩
                  · rintro w ⟨r1, r2, r3, r4, r5, r6⟩; go_simp; try with_reducible rfl
                  simp only [Act.put, List.setIfInBounds_toArray, List.set_cons_succ, List.set_cons_zero]
                  refine Lim.stepR 14 (fun _ => trivial) rfl (by kernel_rfl) (fun _ _ _ _ h => h) hC rfl ?_; apply Exists.intro; refine ⟨?_, ?_⟩
                  · rintro w ⟨r1, r2, r3, r4, r5, r6⟩; go_simp; try with_reducible rfl
                  simp only [Act.put, List.setIfInBounds_toArray, List.set_cons_succ, List.set_cons_zero]
                  refine Lim.stepR 15 (fun _ => trivial) rfl (by kernel_rfl) (fun _ _ _ _ h => h) hC rfl ?_; apply Exists.intro; refine ⟨?_, ?_⟩
                  · rintro w ⟨r1, r2, r3, r4, r5, r6⟩; go_simp; try with_reducible rfl
                  simp only [Act.put, List.setIfInBounds_toArray, List.set_cons_succ, List.set_cons_zero]
                  refine Lim.stepR 16 (fun _ => trivial) rfl (by kernel_rfl) (fun _ _ _ _ h => h) hC rfl ?_; apply Exists.intro; refine ⟨?_, ?_⟩
                  · rintro w ⟨r1, r2, r3, r4, r5, r6⟩; go_simp; try with_reducible rfl
                  simp only [Act.put, List.setIfInBounds_toArray, List.set_cons_succ, List.set_cons_zero]
                  refine Lim.stepD (by kernel_rfl) ?_
                  clear hC
                  gi_wp2_with fail
                  exact ⟨(KeepsOthers.drew W').from _, R2, q2, Lib.hid ⟨h1.out.1.skip (fun h => absurd (by rw [HOJ.out, ← HOP.out]; exact h) ho1), h1.out.2⟩, Lib.hid (h2.out.below (Below.refl _ W').drew), Lib.hid (h3.out.keeps (KeepsOthers.drew W')), Lib.hid (h4.out.sep h2.out.st (T := fun _ => False) (Sep.drew W') (fun h => h.elim)), h5.below (Below.refl _ W').drew⟩
              · have g1 : (r == -1) = false := by simpa using hr1
                refine Lim.regC (fun W => W.cell? ⟨bw, 0, none⟩ = some (.pointer (some ⟨b, 0, none⟩)) ∧ W.cell? ⟨b, 2, none⟩ = some (.slice (some ⟨rb, 0, none⟩) n n) ∧ W.cell? ⟨rb, j, none⟩ = some (.int .i64 r) ∧ W.cell? ⟨bm, 1, none⟩ = some (.slice (some ⟨ob, oo, none⟩) n oc) ∧ W.cell? ⟨ob, oo + j, none⟩ = some (.int .i64 oj) ∧ W.cell? ⟨be, 0, none⟩ = some (.int .i64 o)) [] #[false, false, false, false, false, false, false, false, false, false, false, false, false, false, false, false, false] (by kernel_rfl) rfl ?_
                refine Lim.stepR 0 (fun _ => trivial) rfl (by kernel_rfl) (fun _ _ _ _ h => h) hC rfl ?_; apply Exists.intro; refine ⟨?_, ?_⟩
                · rintro w ⟨r1, r2, r3, r4, r5, r6⟩; go_simp; try with_reducible rfl
                simp only [Act.put, List.setIfInBounds_toArray, List.set_cons_succ, List.set_cons_zero]
                refine Lim.stepR 1 (fun _ => trivial) rfl (by kernel_rfl) (fun _ _ _ _ h => h) hC rfl ?_; apply Exists.intro; refine ⟨?_, ?_⟩
                · rintro w ⟨r1, r2, r3, r4, r5, r6⟩; go_simp; try with_reducible rfl
                simp only [Act.put, List.setIfInBounds_toArray, List.set_cons_succ, List.set_cons_zero]
                refine Lim.stepR 2 (fun _ => trivial) rfl (by kernel_rfl) (fun _ _ _ _ h => h) hC rfl ?_; apply Exists.intro; refine ⟨?_, ?_⟩
                · rintro w ⟨r1, r2, r3, r4, r5, r6⟩; go_simp; try with_reducible rfl
                simp only [Act.put, List.setIfInBounds_toArray, List.set_cons_succ, List.set_cons_zero]
                refine Lim.stepR 3 (fun _ => trivial) rfl (by kernel_rfl) (fun _ _ _ _ h => h) hC rfl ?_; apply Exists.intro; refine ⟨?_, ?_⟩
                · rintro w ⟨r1, r2, r3, r4, r5, r6⟩; go_simp; try with_reducible rfl
                simp only [Act.put, List.setIfInBounds_toArray, List.set_cons_succ, List.set_cons_zero]
                refine Lim.stepR 4 (fun _ => trivial) rfl (by kernel_rfl) (fun _ _ _ _ h => h) hC rfl ?_; apply Exists.intro; refine ⟨?_, ?_⟩
                · rintro w ⟨r1, r2, r3, r4, r5, r6⟩; go_simp; try with_reducible rfl
                simp only [Act.put, List.setIfInBounds_toArray, List.set_cons_succ, List.set_cons_zero]
                refine Lim.stepR 5 (fun _ => trivial) rfl (by kernel_rfl) (fun _ _ _ _ h => h) hC rfl ?_; apply Exists.intro; refine ⟨?_, ?_⟩
                · rintro w ⟨r1, r2, r3, r4, r5, r6⟩; go_simp; try with_reducible rfl
                simp only [Act.put, List.setIfInBounds_toArray, List.set_cons_succ, List.set_cons_zero]
                refine Lim.stepR 6 (fun _ => trivial) rfl (by kernel_rfl) (fun _ _ _ _ h => h) hC rfl ?_; apply Exists.intro; refine ⟨?_, ?_⟩
                · rintro w ⟨r1, r2, r3, r4, r5, r6⟩; go_simp; try with_reducible rfl
                simp only [Act.put, List.setIfInBounds_toArray, List.set_cons_succ, List.set_cons_zero]
                refine Lim.stepR 7 (fun _ => trivial) rfl (by kernel_rfl) (fun _ _ _ _ h => h) hC rfl ?_; apply Exists.intro; refine ⟨?_, ?_⟩
                · rintro w ⟨r1, r2, r3, r4, r5, r6⟩; go_simp; try with_reducible rfl
                simp only [Act.put, List.setIfInBounds_toArray, List.set_cons_succ, List.set_cons_zero]
                refine Lim.stepR 8 (fun _ => trivial) rfl (by kernel_rfl) (fun _ _ _ _ h => h) hC rfl ?_; apply Exists.intro; refine ⟨?_, ?_⟩
                · rintro w ⟨r1, r2, r3, r4, r5, r6⟩; go_simp; try with_reducible rfl
                simp only [Act.put, List.setIfInBounds_toArray, List.set_cons_succ, List.set_cons_zero]
                refine Lim.stepS 9 (fun _ => trivial) rfl (by kernel_rfl) (fun _ _ _ _ h => h) hC rfl ?_
                simp only [Act.put, List.setIfInBounds_toArray, List.set_cons_succ, List.set_cons_zero]
                refine Lim.stepS 10 (fun _ => trivial) rfl (by kernel_rfl) (fun _ _ _ _ h => h) hC rfl ?_
                simp only [Act.put, List.setIfInBounds_toArray, List.set_cons_succ, List.set_cons_zero]
                refine Lim.stepS 11 (fun _ => trivial) rfl (by kernel_rfl) (fun _ _ _ _ h => h) hC rfl ?_
                simp only [Act.put, List.setIfInBounds_toArray, List.set_cons_succ, List.set_cons_zero]
                refine Lim.stepS 12 (fun _ => trivial) rfl (by kernel_rfl) (fun _ _ _ _ h => h) hC rfl ?_
                simp only [Act.put, List.setIfInBounds_toArray, List.set_cons_succ, List.set_cons_zero]
                refine Lim.stepS 13 (fun _ => trivial) rfl (by kernel_rfl) (fun _ _ _ _ h => h) hC rfl ?_
                simp only [Act.put, List.setIfInBounds_toArray, List.set_cons_succ, List.set_cons_zero]
                refine Lim.stepS 14 (fun _ => trivial) rfl (by kernel_rfl) (fun _ _ _ _ h => h) hC rfl ?_
                simp only [Act.put, List.setIfInBounds_toArray, List.set_cons_succ, List.set_cons_zero]
                refine Lim.stepS 15 (fun _ => trivial) rfl (by kernel_rfl) (fun _ _ _ _ h => h) hC rfl ?_
                simp only [Act.put, List.setIfInBounds_toArray, List.set_cons_succ, List.set_cons_zero]
                refine Lim.stepR 16 (fun _ => trivial) rfl (by kernel_rfl) (fun _ _ _ _ h => h) hC rfl ?_; apply Exists.intro; refine ⟨?_, ?_⟩
                · rintro w ⟨r1, r2, r3, r4, r5, r6⟩; go_simp; try with_reducible rfl
                simp only [Act.put, List.setIfInBounds_toArray, List.set_cons_succ, List.set_cons_zero]
                refine Lim.stepD (by kernel_rfl) ?_
                clear hC
                gi_wp2_with fail
                exact ⟨(KeepsOthers.drew W').from _, R2, q2, Lib.hid ⟨h1.out.1.skip (fun h => h1.out.1.old_same HOK.out.1 HQ.out.1 HR.out.symm HNB.out h (by rw [← HRJ.out]; exact hr1)), h1.out.2⟩, Lib.hid (h2.out.below (Below.refl _ W').drew), Lib.hid (h3.out.keeps (KeepsOthers.drew W')), Lib.hid (h4.out.sep h2.out.st (T := fun _ => False) (Sep.drew W') (fun h => h.elim)), h5.below (Below.refl _ W').drew⟩
        · have g1 : (r != -1) = true := by simpa using hr
          have HL := Lib.hid (HM1.out.2.2.2.2.1.skip (by rw [← HR.out]; exact hr))
          clear hr
          go_wp2_with fail
          exact .intro (n - (k + 1)) (by have := HM1.out.2.2.2.2.2.2; omega) (hJ _ _ _ ⟨k + 1, c, R, by unfold FrO; rfl, HM1.out.2.1, Lib.hid ⟨HM1.out.1, HL.out, by omega, rfl, by have := HM1.out.2.2.2.2.2.2.2; omega⟩⟩)
      · obtain rfl : k = n := by have := hI.out.2.2.1; omega
        have d0 := hI.out.1.w0
        have HI := Lib.hid hI.out
        clear hI
        go_wp2_with fail
        refine leaves_marks (B := S) _ hm (fun w' hs => ⟨_, results_two (fn := Try.f35) rfl _ _ rfl rfl, ?_⟩)
        have hreg := Lab.reg (by have h := HI.out.2.1; rw [HNN.out] at h; exact h)
        have hM := HI.out.1.steady hs (by have := HI.out.1.lt; omega)
        refine ⟨hM.be, .inl ⟨HE.out, b, rb, _, c, rfl, by have := hM.lt; omega, ?_, hreg.1, hreg.2.1⟩⟩
        have hrow : RowC w' rb m.n (fun p => (((R p).toNat : Nat) : Int)) := ⟨fun j hj => by rw [hM.row.c j hj, Int.toNat_of_nonneg (hreg.2.2 j hj)], hM.row.f, hM.row.o⟩
        exact ⟨⟨by have := hM.lt; have := HA.out.2.1; omega, by have := hM.lt; have := HA.out.2.1; omega, hM.lt.2.2.2.2.1⟩, hM.b0, ⟨_, hM.b1, HA.out.2.2.below (hM.be.mono HA.out.2.1)⟩, hM.b2, hM.b3, ⟨_, hM.mt⟩, hrow⟩
  · have g1 : (errE wd os != 0) = true := by simpa using he
    have HEE := Lib.hid he
    obtain ⟨er, her⟩ : ∃ er, er = errE wd os := ⟨_, rfl⟩
    rw [← her] at g1 HEE ⊢
    have HER := Lib.hid her
    clear he her
    go_wp2_with fail
    refine leaves_marks (B := w.heap.size) _ (Marks.nil _ _) (fun w' hs => ⟨_, results_two (fn := Try.f35) rfl _ _ rfl rfl, ?_⟩)
    exact ⟨HB1.out.1.steady hs (Nat.le_refl _) (by have := HB1.out.2; omega), .inr ⟨by rw [← HER.out]; exact HEE.out, by rw [← HER.out]; rfl⟩⟩
end Go.Proofs.Ytiacgaplhndlnaa
