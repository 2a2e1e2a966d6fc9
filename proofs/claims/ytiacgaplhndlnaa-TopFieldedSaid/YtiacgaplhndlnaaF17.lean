/-
  Parts of the proof, in the order in which they build: EvI.
-/
import Derived.Lib.SliceRun
import Derived.BigFrame
import Derived.Scope
import Derived.Carry
import Derived.Deep.MidRow
import Derived.Deep.LoopGhost
import Derived.Deep.CutRange
import Derived.BigQuiet
import Derived.Test.YtiacgaplhndlnaaF15
import Derived.Test.YtiacgaplhndlnaaF16
set_option linter.unusedVariables false
set_option linter.unusedSimpArgs false
namespace Go.Proofs.Ytiacgaplhndlnaa
open Go.RowKit Go.Shelf
open Lim

attribute [local go_sem] Oper.semAt_some

theorem size_setCells (b : Nat) (vs : List Value) : ∀ (o : Nat) (w : World), (w.setCells b o vs).heap.size = w.heap.size := by
  induction vs with
  | nil => intro o w; rfl
  | cons v vs ih => intro o w; exact (ih (o + 1) _).trans (by simp [World.setCell])
theorem cells_far {b o : Nat} {vs : List Value} {k j : Nat} : ∀ {w : World}, b ≠ k → (w.setCells b o vs).cell? ⟨k, j, none⟩ = w.cell? ⟨k, j, none⟩ := by
  induction vs generalizing o with
  | nil => intro w _; rfl
  | cons v vs ih => intro w h; exact (ih (o := o + 1) h).trans (setCell_far _ _ h)
theorem cells_ahead {b o : Nat} {vs : List Value} {j : Nat} : ∀ {w : World}, j < o → (w.setCells b o vs).cell? ⟨b, j, none⟩ = w.cell? ⟨b, j, none⟩ := by
  induction vs generalizing o with
  | nil => intro w _; rfl
  | cons v vs ih => intro w h; exact (ih (o := o + 1) (by omega)).trans (setCell_off _ _ (by omega))
theorem sep_cells (b : Nat) (vs : List Value) : ∀ (o : Nat) (w : World), Sep (fun k => k = b) w (w.setCells b o vs) := by
  induction vs with
  | nil => intro o w; exact Sep.refl w
  | cons v vs ih => intro o w; exact (Sep.set w b o v).trans (ih (o + 1) _)
def falses : List Value := List.replicate 100 (.bool false)
theorem falses_length : falses.length = 100 := by simp [falses]
theorem met_clear {w : World} {b : Nat} {M : Nat → Bool} (h : MetE w b M) : MetE (w.setCells b 4 falses) b (fun _ => false) := by
  have hthr : w.there b 4 falses.length := fun j hj => by
    rw [falses_length] at hj
    exact ⟨by rw [(h j hj).1]; rfl, (h j hj).2⟩
  intro k hk
  refine ⟨World.rangeAt_setCells_same _ _ _ _ hthr k (.bool false) (List.getElem?_replicate_of_lt hk), ?_⟩
  have : ∀ (vs : List Value) (o : Nat) (w : World) (a : Addr), (w.setCells b o vs).frozen? a = w.frozen? a := by
    intro vs
    induction vs with
    | nil => intro o w a; rfl
    | cons v vs ih => intro o w a; exact (ih (o + 1) _ a).trans (World.frozen?_setCell ..)
  rw [this]; exact (h k hk).2
theorem WkE.clear {W : World} {B b g : Nat} {m : Mp} {r : Nat → Nat} {k : Nat} (h : WkE W B b g m r k) : WkE (W.setCells b 4 falses) B b g m r k := by
  obtain ⟨ov, h1, h2⟩ := h.c1
  obtain ⟨M, h3⟩ := h.mt
  have hs := sep_cells b falses 4 W
  have hB : B ≤ W.heap.size := by have := World.block_lt_of_cell? _ _ h.c0; have := h.lt.1; simp at *; omega
  exact ⟨h.lt, (cells_ahead (by omega)).trans h.c0, ⟨ov, (cells_ahead (by omega)).trans h1, h2.below (hs.below hB (fun k hk => by rw [hk]; exact h.lt.1))⟩, (cells_ahead (by omega)).trans h.c2, (cells_ahead (by omega)).trans h.c3, ⟨_, met_clear h3⟩, h.row.sep hs (fun e => h.lt.2.2 e.symm)⟩
theorem zero_bool (w : World) : (zeroValue 4).run Try.prog w = .ok (.bool false) w := by kernel_rfl
theorem OuM.start {B b g : Nat} {m : Mp} {r : Nat → Nat} {kk j : Nat} {w W0 : World} (hsz : W0.heap.size = w.heap.size + 1 + 1) (h0 : W0.cell? ⟨w.heap.size, 0, none⟩ = some (.pointer (some ⟨b, 0, none⟩))) (h1 : W0.cell? ⟨w.heap.size + 1, 0, none⟩ = some (.int .i64 j))
    (hw : WkE W0 B b g m r kk) (hm : MetE W0 b (fun _ => false)) (hgb : w.grownBy W0 (some b)) (hb : b < w.heap.size) (hg : g < w.heap.size) :
    OuM w B b g m r kk j w.heap.size (w.heap.size + 1) (w.heap.size + 1 + 1) (w.heap.size + 1 + 1 + 1) (w.heap.size + 1 + 1 + 1 + 1) (w.heap.size + 1 + 1 + 1 + 1 + 1) (fun _ => false) 0 (fun _ => 0) []
      ((((W0.alloc (.map #[] 0)).alloc (.cells #[.map (some (w.heap.size + 1 + 1))] 130)).alloc (.cells #[.func (.func 157) #[] #[.pointer (some ⟨w.heap.size, 0, none⟩), .pointer (some ⟨w.heap.size + 1, 0, none⟩)]] 94)).alloc (.cells #[.slice none 0 0] 173)) := by
  have hb1 : Below W0.heap.size W0 (W0.alloc (.map #[] 0)) := (Below.refl _ W0).alloc (Nat.le_refl _) _
  obtain ⟨W1, hW1⟩ : ∃ W1, W1 = W0.alloc (.map #[] 0) := ⟨_, rfl⟩
  have hs1 : W1.heap.size = w.heap.size + 1 + 1 + 1 := by rw [hW1]; simp [hsz]
  have hm1 : MapI W1 (w.heap.size + 1 + 1) 0 (fun _ => 0) := by rw [hW1, ← hsz]; exact MapI.made W0
  rw [← hW1] at hb1 ⊢
  obtain ⟨W2, hW2⟩ : ∃ W2, W2 = W1.alloc (.cells #[.map (some (w.heap.size + 1 + 1))] 130) := ⟨_, rfl⟩
  have hb2 : Below W1.heap.size W1 W2 := by rw [hW2]; exact (Below.refl _ W1).alloc (Nat.le_refl _) _
  have hs2 : W2.heap.size = w.heap.size + 1 + 1 + 1 + 1 := by rw [hW2]; simp [hs1]
  have hc2 : W2.cell? ⟨w.heap.size + 1 + 1 + 1, 0, none⟩ = some (.map (some (w.heap.size + 1 + 1))) := by rw [hW2, ← hs1]; simp [go_sem]
  rw [← hW2]
  obtain ⟨W3, hW3⟩ : ∃ W3, W3 = W2.alloc (.cells #[.func (.func 157) #[] #[.pointer (some ⟨w.heap.size, 0, none⟩), .pointer (some ⟨w.heap.size + 1, 0, none⟩)]] 94) := ⟨_, rfl⟩
  have hb3 : Below W2.heap.size W2 W3 := by rw [hW3]; exact (Below.refl _ W2).alloc (Nat.le_refl _) _
  have hs3 : W3.heap.size = w.heap.size + 1 + 1 + 1 + 1 + 1 := by rw [hW3]; simp [hs2]
  have hc3 : W3.cell? ⟨w.heap.size + 1 + 1 + 1 + 1, 0, none⟩ = some (.func (.func 157) #[] #[.pointer (some ⟨w.heap.size, 0, none⟩), .pointer (some ⟨w.heap.size + 1, 0, none⟩)]) := by rw [hW3, ← hs2]; simp [go_sem]
  rw [← hW3]
  have hb4 : Below W3.heap.size W3 (W3.alloc (.cells #[.slice none 0 0] 173)) := (Below.refl _ W3).alloc (Nat.le_refl _) _
  have hst := StM.new (t := 173) W3
  rw [hs3] at hst
  have hb : Below W0.heap.size W0 (W3.alloc (.cells #[.slice none 0 0] 173)) := hb1.trans ((hb2.mono hb1.size).trans ((hb3.mono (by omega)).trans (hb4.mono (by omega))))
  have hb24 : Below W1.heap.size W1 (W3.alloc (.cells #[.slice none 0 0] 173)) := hb2.trans ((hb3.mono (by omega)).trans (hb4.mono (by omega)))
  have hb34 : Below W2.heap.size W2 (W3.alloc (.cells #[.slice none 0 0] 173)) := hb3.trans (hb4.mono (by omega))
  exact ⟨⟨hb.os.trans hgb.os, hb.tape.trans hgb.tape, hb.output.trans hgb.output, Nat.le_trans hgb.size hb.size, fun k h1 h2 => (hb.block k (Nat.lt_of_lt_of_le h1 hgb.size)).trans (hgb.block k h1 h2)⟩, by omega, hb.on h0, hb.on h1, hm1.same (hb24.block _ hm1.lt), hb34.on hc2, hb4.on hc3, hw.below hb, hm.sep (T := fun _ => False) (Sep.of_below hb) id, hst⟩
/-- what out answers -/
def OutAns (B b g : Nat) (m : Mp) (r : Nat → Nat) (kk i j : Nat) (w : World) (e : Ending) (w' : World) : Prop :=
  w.grownBy w' (some b) ∧ WkE w' B b g m r kk ∧ ∃ v, e = .returned v ∧ ((v = .slice none 0 0 ∧ ¬ OutW m r i j) ∨ ∃ L : List Nat, Leads m r i j L ∧ L.length ≤ 300 ∧ w'.ownsRow w.heap.size 3 1 v L.length (ints (L.map Int.ofNat)))
/-- the unmet plots, as numbers -/
def unR (M : Nat → Bool) : Nat → Int := fun k => if M k = true then 0 else -1
theorem unR_upd {M : Nat → Bool} (k : Nat) : unR (updB M k) = upd (unR M) k 0 := by
  funext c
  by_cases e : c = k
  · subst e; simp [unR, updB_same, upd_same]
  · rw [upd_ne _ _ e]; simp [unR, updB_ne _ e]
/-- what the way back needs -/
structure OuW (w : World) (B b g : Nat) (m : Mp) (r : Nat → Nat) (kk qm q7 bs mn : Nat) (F : Int → Int) (W : World) : Prop where
  gb : w.grownBy W (some b)
  lt : b < w.heap.size ∧ g < w.heap.size ∧ w.heap.size < qm ∧ qm < q7 ∧ q7 < bs
  mp : MapI W qm mn F
  c7 : W.cell? ⟨q7, 0, none⟩ = some (.map (some qm))
  wk : WkE W B b g m r kk
theorem OuM.way {w : World} {B b g : Nat} {m : Mp} {r : Nat → Nat} {kk j q3 q5 qm q7 q8 bs mn : Nat} {M : Nat → Bool} {F : Int → Int} {q : List Nat} {W : World} (h : OuM w B b g m r kk j q3 q5 qm q7 q8 bs M mn F q W) : OuW w B b g m r kk qm q7 bs mn F W :=
  ⟨h.gb, by have := h.lt; omega, h.mp, h.c7, h.wk⟩
theorem OuW.sep {w : World} {B b g : Nat} {m : Mp} {r : Nat → Nat} {kk qm q7 bs mn : Nat} {F : Int → Int} {W W' : World} {T : Nat → Prop} (h : OuW w B b g m r kk qm q7 bs mn F W) (hs : Sep T W W') (hT : ∀ x, T x → bs ≤ x) : OuW w B b g m r kk qm q7 bs mn F W' := by
  obtain ⟨l1, l2, l3, l4, l5⟩ := h.lt
  have hl := h.wk.lt
  have no : ∀ x, x < bs → ¬ T x := fun x hx h => by have := hT x h; omega
  exact ⟨⟨hs.os.trans h.gb.os, hs.tape.trans h.gb.tape, hs.output.trans h.gb.output, Nat.le_trans h.gb.size hs.size, fun x h1 h2 => (hs.same x (Nat.lt_of_lt_of_le h1 h.gb.size) (no x (by omega))).trans (h.gb.block x h1 h2)⟩, h.lt, h.mp.same (hs.same qm h.mp.lt (no _ (by omega))), hs.cell h.c7 (no _ (by omega)), h.wk.sep hs (no _ (by omega)) (no _ (by omega)) (fun x hx => by have := hT x hx; omega)⟩
theorem OuW.steady {w : World} {B b g : Nat} {m : Mp} {r : Nat → Nat} {kk qm q7 bs mn B' : Nat} {F : Int → Int} {W W' : World} (h : OuW w B b g m r kk qm q7 bs mn F W) (hs : Steady B' W W') (hB : bs ≤ B') : w.grownBy W' (some b) ∧ WkE W' B b g m r kk := by
  obtain ⟨l1, l2, l3, l4, l5⟩ := h.lt
  refine ⟨⟨hs.os.trans h.gb.os, hs.tape.trans h.gb.tape, hs.output.trans h.gb.output, Nat.le_trans h.gb.size hs.size, fun x h1 h2 => ?_⟩, h.wk.steady hs⟩
  have hlt : x < W.heap.size := Nat.lt_of_lt_of_le h1 h.gb.size
  rw [hs.same x _ (Array.getElem?_eq_getElem hlt) (.inl (by omega)), ← h.gb.block x h1 h2, Array.getElem?_eq_getElem hlt]
/-- how far the way back may still go -/
def meaB (rk : Nat → Nat) : Option Value → Nat
  | some (.int _ y) => if y = -1 then 0 else rk y.toNat + 1
  | _ => 0
/-- the frame of out while its second loop runs -/
def FrU (q3 q7 q8 bs : Nat) (a : Act) : Prop := a = { tmps := #[Lim.sl a 0, Lim.sl a 1, Lim.sl a 2, .pointer (some ⟨q3, 0, none⟩), Lim.sl a 4, Lim.sl a 5, Lim.sl a 6, .pointer (some ⟨q7, 0, none⟩), .pointer (some ⟨q8, 0, none⟩), .pointer (some ⟨bs, 0, none⟩), Lim.sl a 10, Lim.sl a 11, Lim.sl a 12, Lim.sl a 13, Lim.sl a 14, Lim.sl a 15, Lim.sl a 16, Lim.sl a 17, Lim.sl a 18, Lim.sl a 19, Lim.sl a 20, Lim.sl a 21, Lim.sl a 22, Lim.sl a 23, Lim.sl a 24, Lim.sl a 25, Lim.sl a 26, Lim.sl a 27, Lim.sl a 28, Lim.sl a 29, Lim.sl a 30, Lim.sl a 31, Lim.sl a 32, Lim.sl a 33, Lim.sl a 34, Lim.sl a 35, Lim.sl a 36, Lim.sl a 37, Lim.sl a 38, Lim.sl a 39, Lim.sl a 40, Lim.sl a 41, Lim.sl a 42, Lim.sl a 43, Lim.sl a 44, Lim.sl a 45, Lim.sl a 46, Lim.sl a 47, Lim.sl a 48, Lim.sl a 49, Lim.sl a 50, Lim.sl a 51, Lim.sl a 52, Lim.sl a 53, Lim.sl a 54, Lim.sl a 55, Lim.sl a 56, Lim.sl a 57, Lim.sl a 58, Lim.sl a 59, Lim.sl a 60, Lim.sl a 61, Lim.sl a 62, Lim.sl a 63, Lim.sl a 64, Lim.sl a 65, Lim.sl a 66, Lim.sl a 67, Lim.sl a 68, Lim.sl a 69, Lim.sl a 70, Lim.sl a 71, Lim.sl a 72, Lim.sl a 73, Lim.sl a 74, Lim.sl a 75, Lim.sl a 76, Lim.sl a 77, Lim.sl a 78, Lim.sl a 79, Lim.sl a 80, Lim.sl a 81, Lim.sl a 82, Lim.sl a 83, Lim.sl a 84, Lim.sl a 85, Lim.sl a 86], defers := a.defers }
set_option maxRecDepth 100000 in
set_option maxHeartbeats 4000000 in
theorem out_any {B b g : Nat} {m : Mp} {r : Nat → Nat} {kk i j : Nat} {w : World} (hm : m.Ok) (hr : IsReg m r) (hij : i ≠ j) (hi : i < 100) (hj : j < 100) (hw : WkE w B b g m r kk) :
    Calls Try.prog 133 #[.pointer (some ⟨b, 0, none⟩), .int .i64 i, .int .i64 j] w fun e w' => OutAns B b g m r kk i j w e w' := by
  have HM := Lib.hid (And.intro hm (And.intro hr hij))
  have hbw : b < w.heap.size := World.block_lt_of_cell? _ _ hw.c0
  have hgw : g < w.heap.size := by obtain ⟨cur, h1, -⟩ := hw.row.o; exact (Array.getElem?_eq_some_iff.1 h1).1
  have hn : m.n ≤ 100 := hm.n1
  have HW := Lib.hid hw
  refine (callsIn_wide (n := 2)).1 (callsIn_of_wp_marks Try.func133 rfl trivial ?_ rfl)
  simp only [Try.ntmps133, List.size_toArray, List.length_cons, List.length_nil, Nat.reduceAdd, Nat.reduceSub, Array.replicate_succ, Array.replicate_zero, List.push_toArray, List.append_toArray, List.nil_append, List.cons_append]
  refine wpIn_wide.2 ?_
  refine wp_noPanic ?_
  have hb0 : Below w.heap.size w ((w.alloc (.cells #[.pointer (some ⟨b, 0, none⟩)] 98)).alloc (.cells #[.int .i64 j] 3)) := ((Below.refl _ w).alloc (Nat.le_refl _) _).alloc (by simp) _
  have HW2 := Lib.hid (HW.out.below hb0)
  obtain ⟨Mx, hMx⟩ := HW2.out.mt
  have hcl : ∀ ty, (Builtin.clear_ #[239] ty #[.slice (some ⟨b, 4, none⟩) 100 100]).run Try.prog ((w.alloc (.cells #[.pointer (some ⟨b, 0, none⟩)] 98)).alloc (.cells #[.int .i64 j] 3)) = .ok (.tuple #[]) (((w.alloc (.cells #[.pointer (some ⟨b, 0, none⟩)] 98)).alloc (.cells #[.int .i64 j] 3)).setCells b 4 falses) :=
    fun ty => Lib.run_clear_slice _ 239 4 ty (.bool false) Try.underlying239 zero_bool rfl rfl b 4 100 100 (by decide) (fun j hj => by rw [(hMx j hj).1]; rfl) (fun j hj => (hMx j hj).2)
  have s2 := sep_cells b falses 4 ((w.alloc (.cells #[.pointer (some ⟨b, 0, none⟩)] 98)).alloc (.cells #[.int .i64 j] 3))
  have c3 : (((w.alloc (.cells #[.pointer (some ⟨b, 0, none⟩)] 98)).alloc (.cells #[.int .i64 j] 3)).setCells b 4 falses).cell? ⟨w.heap.size, 0, none⟩ = some (.pointer (some ⟨b, 0, none⟩)) := by
    rw [cells_far (by omega)]; simp [go_sem]
  have c5 : (((w.alloc (.cells #[.pointer (some ⟨b, 0, none⟩)] 98)).alloc (.cells #[.int .i64 j] 3)).setCells b 4 falses).cell? ⟨w.heap.size + 1, 0, none⟩ = some (.int .i64 j) := by
    rw [cells_far (by omega)]; simp [go_sem]
  have sz2 : (((w.alloc (.cells #[.pointer (some ⟨b, 0, none⟩)] 98)).alloc (.cells #[.int .i64 j] 3)).setCells b 4 falses).heap.size = w.heap.size + 1 + 1 := by rw [size_setCells]; simp
  have gb2 : w.grownBy (((w.alloc (.cells #[.pointer (some ⟨b, 0, none⟩)] 98)).alloc (.cells #[.int .i64 j] 3)).setCells b 4 falses) (some b) := ((Sep.of_below hb0).trans s2).grown (fun k _ hk => hk)
  have M0 := Lib.hid (OuM.start sz2 c3 c5 HW2.out.clear (met_clear hMx) gb2 hbw hgw)
  clear s2 gb2 HW2 hMx hb0 hw hm hr hij
  go_wp2_with (simp only [hcl])
  clear hcl
  generalize hW : World.setCells _ _ _ _ = W0 at *
  rw [run_makeMap]
  clear hW
  have e3 := M0.out.c3
  have e2 := M0.out.wk.c2
  go_wp2_with fail
  generalize hW : World.alloc _ _ = W3
  rw [hW] at M0
  clear hW e3 e2 c3 c5 sz2 W0
  obtain ⟨bs, hbs⟩ : ∃ x, x = w.heap.size + 1 + 1 + 1 + 1 + 1 := ⟨_, rfl⟩
  obtain ⟨q8, hq8⟩ : ∃ x, x = w.heap.size + 1 + 1 + 1 + 1 := ⟨_, rfl⟩
  obtain ⟨q7, hq7⟩ : ∃ x, x = w.heap.size + 1 + 1 + 1 := ⟨_, rfl⟩
  obtain ⟨qm, hqm⟩ : ∃ x, x = w.heap.size + 1 + 1 := ⟨_, rfl⟩
  obtain ⟨q5, hq5⟩ : ∃ x, x = w.heap.size + 1 := ⟨_, rfl⟩
  obtain ⟨q3, hq3⟩ : ∃ x, x = w.heap.size := ⟨_, rfl⟩
  rw [← hbs, ← hq8, ← hq7, ← hqm, ← hq5, ← hq3] at M0
  rw [← hbs, ← hq8, ← hq7, ← hq5, ← hq3]
  clear hbs hq8 hq7 hqm hq5 hq3
  obtain ⟨st, hst⟩ : ∃ st : Nat → Bool, st = fun p => decide (r p = i) := ⟨_, rfl⟩
  have HST := Lib.hid hst
  clear hst
  have HIJ := Lib.hid (And.intro hi hj)
  clear hi hj
  go_loopw [26] (fun v wr => ∃ k : Nat, k ≤ m.n ∧ v = .int .i64 k ∧ Hid (OuM w B b g m r kk j q3 q5 qm q7 q8 bs (met1 st k) k (from1 st k) (queue1 st k) wr)) (fun v _ => m.n - (intOf v).toNat)
  case atStart => exact ⟨0, Nat.zero_le _, rfl, by rw [met1_zero, from1_zero]; exact M0⟩
  case round =>
    clear M0
    obtain ⟨k, hk, rfl, hI⟩ := hrel
    by_cases hlt : k < m.n
    · have hk100 : k < 100 := by omega
      obtain ⟨rk, hrk⟩ : ∃ rk, rk = r k := ⟨_, rfl⟩
      have e1 : wr.cell? ⟨g, k, none⟩ = some (.int .i64 rk) := by rw [hrk]; exact hI.out.wk.row.c k hlt
      have HRK := Lib.hid hrk
      clear hrk
      by_cases hri : rk = i
      · subst hri
        have HS : Hid (st k = true) := Lib.hid (by rw [HST.out]; exact decide_eq_true HRK.out.symm)
        have M4 := (hI.out.mark hk100).below (Below.refl _ _).drew
        obtain ⟨w4, hrun, hmap, hgr⟩ := M4.mp.update (c := k) (v := -1) (by unfold maxLen; omega) (WalkArith.wf_i64 ⟨by omega, by omega⟩) (by decide)
        have M5 := M4.note hmap hgr
        clear hmap hgr
        have hC3 : (fun W => W.cell? ⟨q3, 0, none⟩ = some (.pointer (some ⟨b, 0, none⟩)) ∧ W.cell? ⟨q7, 0, none⟩ = some (.map (some qm))) w4 := ⟨M5.c3, M5.c7⟩
        have hC2 : (fun W => W.cell? ⟨q3, 0, none⟩ = some (.pointer (some ⟨b, 0, none⟩)) ∧ W.cell? ⟨q7, 0, none⟩ = some (.map (some qm))) (wr.setCell ⟨b, 4 + k, none⟩ (.bool true)).drew := ⟨M4.c3, M4.c7⟩
        have hC : (fun W => W.cell? ⟨q3, 0, none⟩ = some (.pointer (some ⟨b, 0, none⟩)) ∧ W.cell? ⟨q7, 0, none⟩ = some (.map (some qm))) wr.drew := ⟨hI.out.c3, hI.out.c7⟩
        obtain ⟨m4, m5⟩ := hI.out.mt k hk100
        have hk64 : (k : Int) < 100 := by omega
        have H5 := Lib.hid M5
        clear M5 M4
        go_wp2_with fail
        refine Lim.regC' (fun W => W.cell? ⟨q3, 0, none⟩ = some (.pointer (some ⟨b, 0, none⟩)) ∧ W.cell? ⟨q7, 0, none⟩ = some (.map (some qm))) [] #[false, false, false, false, false, false, false, false, false] (by kernel_rfl) rfl ?_
        refine Lim.stepR 0 (fun _ => trivial) rfl (by kernel_rfl) (fun _ _ _ _ h => h) hC rfl ?_; apply Exists.intro; refine ⟨?_, ?_⟩
        · rintro w ⟨r1, r2⟩; go_simp; try with_reducible rfl
        simp only [Act.put, List.setIfInBounds_toArray, List.set_cons_succ, List.set_cons_zero]
        refine Lim.stepR 1 (fun _ => trivial) rfl (by kernel_rfl) (fun _ _ _ _ h => h) hC rfl ?_; apply Exists.intro; refine ⟨?_, ?_⟩
        · rintro w ⟨r1, r2⟩; go_simp; try with_reducible rfl
        simp only [Act.put, List.setIfInBounds_toArray, List.set_cons_succ, List.set_cons_zero]
        refine Lim.stepR 2 (fun _ => trivial) rfl (by kernel_rfl) (fun _ _ _ _ h => h) hC rfl ?_; apply Exists.intro; refine ⟨?_, ?_⟩
        · rintro w ⟨r1, r2⟩; go_simp; try with_reducible rfl
        simp only [Act.put, List.setIfInBounds_toArray, List.set_cons_succ, List.set_cons_zero]
        refine Lim.stepR 3 (fun _ => trivial) rfl (by kernel_rfl) (fun _ _ _ _ h => h) hC rfl ?_; apply Exists.intro; refine ⟨?_, ?_⟩
        · rintro w ⟨r1, r2⟩; go_simp; try with_reducible rfl
        simp only [Act.put, List.setIfInBounds_toArray, List.set_cons_succ, List.set_cons_zero]
        refine Lim.stepR 4 (fun _ => trivial) rfl (by kernel_rfl) (fun _ _ _ _ h => h) hC rfl ?_; apply Exists.intro; refine ⟨?_, ?_⟩
        · rintro w ⟨r1, r2⟩; go_simp; try with_reducible rfl
        simp only [Act.put, List.setIfInBounds_toArray, List.set_cons_succ, List.set_cons_zero]
        refine Lim.stepR 5 (fun _ => trivial) rfl (by kernel_rfl) (fun _ _ _ _ h => h) hC rfl ?_; apply Exists.intro; refine ⟨?_, ?_⟩
        · rintro w ⟨r1, r2⟩; go_simp; try with_reducible rfl
        simp only [Act.put, List.setIfInBounds_toArray, List.set_cons_succ, List.set_cons_zero]
        refine Lim.stepR 6 (fun _ => trivial) rfl (by kernel_rfl) (fun _ _ _ _ h => h) hC rfl ?_; apply Exists.intro; refine ⟨?_, ?_⟩
        · rintro w ⟨r1, r2⟩; go_simp; try with_reducible rfl
        simp only [Act.put, List.setIfInBounds_toArray, List.set_cons_succ, List.set_cons_zero]
        refine Lim.stepE 7 (fun _ => trivial) rfl (by kernel_rfl) rfl (fun K hK => ?_)   -- E store
        go_simp
        refine hK _ _ hC2 ?_
        simp only [Act.put, List.setIfInBounds_toArray, List.set_cons_succ, List.set_cons_zero]
        refine Lim.stepE 8 (fun _ => trivial) rfl (by kernel_rfl) rfl (fun K hK => ?_)   -- E mapUpdate
        go_simp
        refine hK _ _ hC3 ?_
        simp only [Act.put, List.setIfInBounds_toArray, List.set_cons_succ, List.set_cons_zero]
        refine Lim.stepD (by kernel_rfl) ?_
        clear hC hC2 hC3 hrun m4 m5 hI e1
        go_wp2_with fail
        refine (put_st (x := k) H5.out.st (by have := queue1_length st k; omega)).mono ?_
        rintro e w5 ⟨rfl, hst, hsep, -⟩
        have H6 := Lib.hid (H5.out.sep hsep (fun x hx => StT.ge H5.out.st hx) hst)
        clear hst hsep H5
        go_wp2_with fail
        go_roundw
        case rel =>
          refine ⟨k + 1, by omega, by go_num, ?_⟩
          rw [← met1_add HS.out, ← from1_add HS.out, queue1_add HS.out]
          exact H6
        case measure => simp [intOf]; omega
      · have g1 : ((rk : Int) == i) = false := by simp; omega
        have HS : Hid (st k = false) := Lib.hid (by rw [HST.out]; exact decide_eq_false (fun e => hri (HRK.out.trans e)))
        clear hri
        go_wp2_with fail
        go_roundw
        case rel =>
          refine ⟨k + 1, by omega, by go_num, ?_⟩
          rw [← met1_skip HS.out, ← from1_skip HS.out, queue1_skip HS.out]
          exact Lib.hid hI.out.more
        case measure => simp [intOf]; omega
    · obtain rfl : k = m.n := by omega
      have HB0 : Hid (BInv m (Free m r j) (fun c => r c = i) (rimB m) (met1 st m.n) (from1 st m.n) (fun _ => 0) 1 (queue1 st m.n)) := Lib.hid (BInv.begin (fun k hk => by
        rw [HST.out]
        constructor
        · intro h; have h := of_decide_eq_true h; exact ⟨⟨hk, by rw [h]; exact HM.out.2.2⟩, h⟩
        · intro h; exact decide_eq_true h.2) (fun k h => h.1))
      have HMU : Hid (m.n + unN (unR (met1 st m.n)) m.n ≤ 200) := Lib.hid (by have := unN_le (unR (met1 st m.n)) m.n; omega)
      clear HST
      go_wp2_with fail
      refine wp_loop_ghost_k (fun mi a' W => ∃ (M : Nat → Bool) (mn : Nat) (F : Int → Int) (rk : Nat → Nat) (t : Nat) (q : List Nat), FrU q3 q7 q8 bs a' ∧ Marks (bs + 1) a'.defers W ∧ Hid (OuM w B b g m r kk j q3 q5 qm q7 q8 bs M mn F q W ∧ BInv m (Free m r j) (fun c => r c = i) (rimB m) M F rk t q ∧ mi = 2 * unN (unR M) m.n + q.length ∧ mn + unN (unR M) m.n ≤ 200 ∧ t ≤ mn + 1 ∧ mi ≤ 500)) _
        ⟨_, _, _, _, _, _, rfl, Marks.nil _ _, Lib.hid ⟨hI.out, HB0.out, rfl, HMU.out, by omega, by have := unN_le (unR (met1 st m.n)) m.n; have := queue1_length st m.n; omega⟩⟩ ?_
      clear hI HB0 HMU hbw hgw HW
      rintro mi a' W ⟨M, mn, F, rk, t, q, hfr, hm, hI⟩ J2 K2 hJ2 hK2
      unfold FrU at hfr
      generalize a'.defers = ds at hfr hm
      generalize Lim.sl a' = x at hfr
      subst hfr
      rcases List.eq_nil_or_concat q with rfl | ⟨q0, p, rfl⟩
      · obtain ⟨sa, sc, d0⟩ := hI.out.1.st.len
        have HI := Lib.hid hI.out
        clear hI
        go_wp2_with fail
        refine leaves_marks (B := bs + 1) _ hm (fun w' hs => ?_)
        have hle := HI.out.1.lt
        have hO := HI.out.1.steady hs (by omega)
        exact ⟨_, results_one (fn := Try.f133) rfl _ _ rfl, hO.gb, hO.wk, _, rfl, .inl ⟨rfl, out_none HM.out.1 HI.out.2.1⟩⟩
      · rw [List.concat_eq_append] at hI
        obtain ⟨sa, sc, d0⟩ := hI.out.1.st.len
        obtain ⟨L, hL⟩ : ∃ L, L = (q0 ++ [p]).length := ⟨_, rfl⟩
        rw [← hL] at d0
        have hL0 : decide (0 < L) = true := by rw [hL]; simp
        have hpM := hI.out.2.1.wait p (by simp)
        have hpn : p < m.n := (hI.out.2.1.ins p hpM).1
        have HPM := Lib.hid hpM
        have HTK := Lib.hid (take_st hI.out.1.st (by have := hI.out.2.2; simp at this; omega))
        have HLL := Lib.hid hL
        clear hL hpM
        go_wp2_with fail
        refine HTK.out.mono ?_
        rintro e w5 ⟨rfl, hst, hsep, hsub⟩
        have HM5 : Hid (OuM w B b g m r kk j q3 q5 qm q7 q8 bs M mn F q0 (w5.alloc (.cells #[.int .i64 p] 3)) ∧ Marks (bs + 1) ds (w5.alloc (.cells #[.int .i64 p] 3)) ∧ bs < w5.heap.size ∧ (w5.alloc (.cells #[.int .i64 p] 3)).cell? ⟨w5.heap.size, 0, none⟩ = some (.int .i64 p) ∧ (w5.alloc (.cells #[.int .i64 p] 3)).frozen? ⟨w5.heap.size, 0, none⟩ = false ∧ w5.heap.size + 1 = (w5.alloc (.cells #[.int .i64 p] 3)).heap.size ∧ ∀ X, StA bs w5.heap.size X (w5.alloc (.cells #[.int .i64 p] 3))) := by
          have hb : Below w5.heap.size w5 (w5.alloc (.cells #[.int .i64 p] 3)) := (Below.refl _ w5).alloc (Nat.le_refl _) _
          exact Lib.hid ⟨(hI.out.1.sep hsep (fun x hx => by rw [hx]; exact Nat.le_refl _) hst).below hb, (hm.keep (hsep.keeps (fun k o h1 h2 => StT.cells hI.out.1.st k o (by rw [h1]; exact .inl rfl) h2))).keep (keeps_of_below hb), hst.lt, by simp [go_sem], by simp [go_sem], by simp, fun X => (hst.apart X).sep hst (T := fun _ => False) (Sep.of_below hb) id⟩
        have HB5 := Lib.hid hI.out.2
        clear hst hsep hsub HTK hI hm d0 hL0
        go_upto_region 14 with (fail)
        generalize w5.alloc (.cells #[.int .i64 p] 3) = w6 at HM5 ⊢
        obtain ⟨bp, hbp⟩ : ∃ x, x = w5.heap.size := ⟨_, rfl⟩
        rw [← hbp] at HM5 ⊢
        clear hbp w5
        obtain ⟨ov, ho1, hov⟩ := HM5.out.1.wk.c1
        obtain ⟨oa, oc, rfl, -⟩ := hov
        have hC : (fun W => W.cell? ⟨q3, 0, none⟩ = some (.pointer (some ⟨b, 0, none⟩)) ∧ W.cell? ⟨b, 0, none⟩ = some (.int .i64 m.wd) ∧ W.cell? ⟨b, 1, none⟩ = some (.slice oa m.n oc) ∧ W.cell? ⟨bp, 0, none⟩ = some (.int .i64 p)) w6.drew := ⟨HM5.out.1.c3, HM5.out.1.wk.c0, ho1, HM5.out.2.2.2.1⟩
        have HRM := Lib.hid (rim_map (c := oc) (a := oa) (w := w6.drew) HM.out.1 hpn)
        refine Lim.regC' (fun W => W.cell? ⟨q3, 0, none⟩ = some (.pointer (some ⟨b, 0, none⟩)) ∧ W.cell? ⟨b, 0, none⟩ = some (.int .i64 m.wd) ∧ W.cell? ⟨b, 1, none⟩ = some (.slice oa m.n oc) ∧ W.cell? ⟨bp, 0, none⟩ = some (.int .i64 p)) [] #[false, false, false, false, false, false] (by kernel_rfl) rfl ?_
        refine Lim.stepR 0 (fun _ => trivial) rfl (by kernel_rfl) (fun _ _ _ _ h => h) hC rfl ?_; apply Exists.intro; refine ⟨?_, ?_⟩
        · rintro w ⟨r1, r2, r3, r4⟩; go_simp; try with_reducible rfl
        simp only [Act.put, List.setIfInBounds_toArray, List.set_cons_succ, List.set_cons_zero]
        refine Lim.stepR 1 (fun _ => trivial) rfl (by kernel_rfl) (fun _ _ _ _ h => h) hC rfl ?_; apply Exists.intro; refine ⟨?_, ?_⟩
        · rintro w ⟨r1, r2, r3, r4⟩; go_simp; try with_reducible rfl
        simp only [Act.put, List.setIfInBounds_toArray, List.set_cons_succ, List.set_cons_zero]
        refine Lim.stepR 2 (fun _ => trivial) rfl (by kernel_rfl) (fun _ _ _ _ h => h) hC rfl ?_; apply Exists.intro; refine ⟨?_, ?_⟩
        · rintro w ⟨r1, r2, r3, r4⟩; go_simp; try with_reducible rfl
        simp only [Act.put, List.setIfInBounds_toArray, List.set_cons_succ, List.set_cons_zero]
        refine Lim.stepR 3 (fun _ => trivial) rfl (by kernel_rfl) (fun _ _ _ _ h => h) hC rfl ?_; apply Exists.intro; refine ⟨?_, ?_⟩
        · rintro w ⟨r1, r2, r3, r4⟩; go_simp; try with_reducible rfl
        simp only [Act.put, List.setIfInBounds_toArray, List.set_cons_succ, List.set_cons_zero]
        refine Lim.stepR 4 (fun _ => trivial) rfl (by kernel_rfl) (fun _ _ _ _ h => h) hC rfl ?_; apply Exists.intro; refine ⟨?_, ?_⟩
        · rintro w ⟨r1, r2, r3, r4⟩; go_simp; try with_reducible rfl
        simp only [Act.put, List.setIfInBounds_toArray, List.set_cons_succ, List.set_cons_zero]
        refine Lim.stepE 5 (fun _ => trivial) rfl (by kernel_rfl) rfl (fun K hK => ?_)   -- E call
        go_simp
        refine ⟨rfl, (callsIn_wide.2 HRM.out).mono ?_⟩
        rintro e w7 ⟨rfl, hb7⟩
        have hC7 : (fun W => W.cell? ⟨q3, 0, none⟩ = some (.pointer (some ⟨b, 0, none⟩)) ∧ W.cell? ⟨b, 0, none⟩ = some (.int .i64 m.wd) ∧ W.cell? ⟨b, 1, none⟩ = some (.slice oa m.n oc) ∧ W.cell? ⟨bp, 0, none⟩ = some (.int .i64 p)) w7 := ⟨hb7.on hC.1, hb7.on hC.2.1, hb7.on hC.2.2.1, hb7.on hC.2.2.2⟩
        refine hK _ _ hC7 ?_
        simp only [Act.put, List.setIfInBounds_toArray, List.set_cons_succ, List.set_cons_zero]
        refine Lim.stepD (by kernel_rfl) ?_
        have hb6 : Below w6.heap.size w6 w7 := ((Below.refl _ w6).drew).trans hb7
        have HM7 : Hid (OuM w B b g m r kk j q3 q5 qm q7 q8 bs M mn F q0 w7 ∧ Marks (bs + 1) ds w7 ∧ bs < bp ∧ w7.cell? ⟨bp, 0, none⟩ = some (.int .i64 p) ∧ w7.frozen? ⟨bp, 0, none⟩ = false ∧ bp < w7.heap.size ∧ ∀ X, StA bs bp X w7) :=
          Lib.hid ⟨HM5.out.1.below hb6, HM5.out.2.1.keep (keeps_of_below hb6), HM5.out.2.2.1, hb6.on HM5.out.2.2.2.1, frozen_on hb6 HM5.out.2.2.2.1 HM5.out.2.2.2.2.1, by have := hb6.size; have := HM5.out.2.2.2.2.2.1; omega, fun X => (HM5.out.2.2.2.2.2.2 X).sep HM5.out.1.st (T := fun _ => False) (Sep.of_below hb6) id⟩
        clear hC hC7 hb7 hb6 HM5 HRM ho1
        cases hrim : rimB m p with
        | true =>
          have HRI := Lib.hid hrim
          clear hrim hJ2 hK2
          obtain ⟨i0, hi, hz0, hz1, hz2⟩ := info_parts Try.infoInt
          have HF := Lib.hid (And.intro hi (And.intro hz0 (And.intro hz1 hz2)))
          clear hi hz0 hz1 hz2
          go_wp2_with fail
          go_loopw [13] (fun v wr => ∃ (L : List Nat) (y : Int), wr.cell? ⟨bp, 0, none⟩ = some (.int .i64 y) ∧ wr.frozen? ⟨bp, 0, none⟩ = false ∧ Hid (OuW w B b g m r kk qm q7 bs mn F wr ∧ Marks (bs + 1) ds wr ∧ wr.ownsRow (bp + 1) 3 1 v L.length (ints (L.map Int.ofNat))) ∧ Hid (Back m (fun c => r c = i) M rk p L y ∧ L.length + (if y = -1 then 0 else rk y.toNat + 1) ≤ 300)) (fun _ wr => meaB rk (wr.cell? ⟨bp, 0, none⟩))
          case atStart =>
            refine ⟨[], p, HM7.out.2.2.2.1, HM7.out.2.2.2.2.1, Lib.hid ⟨HM7.out.1.way, HM7.out.2.1, World.ownsRow_nil _ _ _ _⟩, Lib.hid ⟨Back.start HPM.out, ?_⟩⟩
            have h4 := HB5.out.1.rank p HPM.out
            have h5 := HB5.out.2.2.2.1
            have h6 := HB5.out.2.2.1
            rw [if_neg (by omega)]; simp; omega
          case round =>
            obtain ⟨L, y, hc, hf, hO, hP⟩ := hrel
            by_cases hy : y = -1
            · subst hy
              have g1 : ((-1 : Int) != -1) = false := by decide
              clear hf
              go_wp2_with fail
              refine (reverse_any (L := L.map Int.ofNat) (by have := hP.out.2; rw [List.length_map]; omega) (by rw [List.length_map]; exact hO.out.2.2)).mono ?_
              rintro e w9 ⟨rfl, hown9, hgr9⟩
              have H9 : Hid (OuW w B b g m r kk qm q7 bs mn F w9 ∧ Marks (bs + 1) ds w9 ∧ w9.ownsRow (bp + 1) 3 1 u13 L.length (ints (L.reverse.map Int.ofNat))) := by
                refine Lib.hid ⟨hO.out.1.sep (Sep.of_grown hgr9) (fun x hx => by have := (hO.out.2.2.lt x hx).1; have := HM7.out.2.2.1; omega), hO.out.2.1.keep (keeps_of_row hO.out.2.2 hgr9), ?_⟩
                have := hown9
                simpa using this
              clear hown9 hgr9 hO
              go_wp2_with fail
              refine leaves_marks (B := bs + 1) _ H9.out.2.1 (fun w' hs => ?_)
              have hO := H9.out.1.steady hs (by omega)
              refine ⟨_, results_one (fn := Try.f133) rfl _ _ rfl, hO.1, hO.2, _, rfl, .inr ⟨L.reverse, way_leads (hP.out.1.way HB5.out.1.toBBase HRI.out), by have := hP.out.2; simp; omega, ?_⟩⟩
              have := hs.owns (owns_mono H9.out.2.2 (base' := w.heap.size) (by have := H9.out.1.lt; have := HM7.out.2.2.1; omega))
              simpa using this
            · have g1 : (y != -1) = true := by simpa using hy
              have HY : Hid (∃ p' : Nat, y = p' ∧ M p' = true ∧ p' < m.n) := Lib.hid (by
                rcases hP.out.1.next with ⟨h1, -⟩ | ⟨p', h1, h2, h3⟩
                · exact absurd h1 hy
                · exact ⟨p', h1, h2, (HB5.out.1.ins p' h2).1⟩)
              obtain ⟨p', hyp, hMp, hpn'⟩ := HY.out
              clear HY
              subst hyp
              have HPR := Lib.hid (show (Lit.int .i64 (p' : Int)).wf = true from WalkArith.wf_i64 ⟨by omega, by omega⟩)
              have HL : Hid (L.length ≤ 300) := Lib.hid (by have := hP.out.2; omega)
              have HMp := Lib.hid hMp
              clear hMp hpn'
              go_wp2_with (at_builtin; refine wpList_append_own _ rfl _ _ 23 rfl (bp + 1) 3 i0 (.int .i64 0) 1 8 Try.underlying23 HF.out.1 HF.out.2.1 HF.out.2.2.1 HF.out.2.2.2 rfl (by decide) _ _ _ rfl (hO.out.2.2.alloc _) ⟨wr.heap.size, 0, none⟩ 1 1 [.int .i64 p'] rfl rfl (cell_one_new _ _ _) (by simp [Value.oneCell']) (by have := HL.out; unfold maxLen; omega) (by have := HL.out; omega) (by simp; have := World.block_lt_of_cell? _ _ hc; simp at this; omega) ?_; intro v' w3 hown3 hgrow _; have hal : Sep (fun _ => False) wr (wr.alloc (.cells #[.int .i64 p'] 3)) := Sep.alloc wr _; have hg3 : ∀ x, u13.ownBlock = some x → bp < x := fun x hx => by { have := (hO.out.2.2.lt x hx).1; omega }; have O3 := (hO.out.1.sep hal (fun _ h => h.elim)).sep (Sep.of_grown hgrow) (fun x hx => by { have h1 := hg3 x hx; have h2 := HM7.out.2.2.1; omega }); have hc3 : w3.cell? ⟨bp, 0, none⟩ = some (.int .i64 p') := (Sep.of_grown hgrow).cell (hal.cell hc id) (fun e => by { have := hg3 _ e; omega }); have hf3 : w3.frozen? ⟨bp, 0, none⟩ = false := (Sep.of_grown hgrow).frozen (hal.cell hc id) (fun e => by { have := hg3 _ e; omega }) (hal.frozen hc id hf); have c7 := O3.c7; have hlk := O3.mp.lookup HPR.out; have HW3 := Lib.hid (And.intro hown3 (And.intro O3 (hO.out.2.1.keep ((keeps_of_below ((Below.refl _ wr).alloc (Nat.le_refl _) _)).trans (keeps_of_row (hO.out.2.2.alloc _) hgrow))))); clear hown3 hgrow hg3 O3 hal)
              have HLK : Hid ((F p' = -1 ∨ ∃ p2 : Nat, F p' = p2 ∧ rk p2 < rk p')) := Lib.hid (by
                rcases HB5.out.1.link p' HMp.out with ⟨h1, -⟩ | ⟨p2, h1, -, -, h2⟩
                · exact .inl h1
                · exact .inr ⟨p2, h1, h2⟩)
              go_roundw
              case rel =>
                refine ⟨L ++ [p'], F p', setCell_same _ _ hc3, by rw [World.frozen?_setCell]; exact hf3, Lib.hid ⟨HW3.out.2.1.sep (Sep.set w3 bp 0 _) (fun x hx => by rw [hx]; have := HM7.out.2.2.1; omega), HW3.out.2.2.keep (KeepsOthers.setCell _ _ _), ?_⟩, Lib.hid ⟨hP.out.1.step HB5.out.1.toBBase, ?_⟩⟩
                · have h1 := owns_setCellB HW3.out.1 (j := 0) (.int .i64 (F p')) (Nat.lt_succ_self bp)
                  simpa [ints] using h1
                · have h2 := hP.out.2
                  rw [if_neg (by omega)] at h2
                  simp only [Int.toNat_natCast] at h2
                  rcases HLK.out with h1 | ⟨p2, h1, h3⟩
                  · rw [if_pos h1]; simp; omega
                  · rw [if_neg (by omega), h1]; simp; omega
              case measure =>
                rw [setCell_same _ _ hc3, hc]
                simp only [meaB]
                rcases HLK.out with h1 | ⟨p2, h1, h3⟩
                · first | (simp [h1]; done) | (simp [h1]; omega)
                · first | (simp [h1]; done) | (simp [h1]; omega)
        | false =>
          have HRI := Lib.hid hrim
          clear hrim
          obtain ⟨ov, ho1, hov⟩ := HM7.out.1.wk.c1
          obtain ⟨oa', oc', rfl, -⟩ := hov
          have hC : (fun W => W.cell? ⟨q3, 0, none⟩ = some (.pointer (some ⟨b, 0, none⟩)) ∧ W.cell? ⟨b, 0, none⟩ = some (.int .i64 m.wd) ∧ W.cell? ⟨b, 1, none⟩ = some (.slice oa' m.n oc') ∧ W.cell? ⟨bp, 0, none⟩ = some (.int .i64 p)) w7.drew := ⟨HM7.out.1.c3, HM7.out.1.wk.c0, ho1, HM7.out.2.2.2.1⟩
          go_wp2_with fail
          refine Lim.regC' (fun W => W.cell? ⟨q3, 0, none⟩ = some (.pointer (some ⟨b, 0, none⟩)) ∧ W.cell? ⟨b, 0, none⟩ = some (.int .i64 m.wd) ∧ W.cell? ⟨b, 1, none⟩ = some (.slice oa' m.n oc') ∧ W.cell? ⟨bp, 0, none⟩ = some (.int .i64 p)) [] #[false, false, false, false, false, false] (by kernel_rfl) rfl ?_
          refine Lim.stepR 0 (fun _ => trivial) rfl (by kernel_rfl) (fun _ _ _ _ h => h) hC rfl ?_; apply Exists.intro; refine ⟨?_, ?_⟩
          · rintro w ⟨r1, r2, r3, r4⟩; go_simp; try with_reducible rfl
          simp only [Act.put, List.setIfInBounds_toArray, List.set_cons_succ, List.set_cons_zero]
          refine Lim.stepR 1 (fun _ => trivial) rfl (by kernel_rfl) (fun _ _ _ _ h => h) hC rfl ?_; apply Exists.intro; refine ⟨?_, ?_⟩
          · rintro w ⟨r1, r2, r3, r4⟩; go_simp; try with_reducible rfl
          simp only [Act.put, List.setIfInBounds_toArray, List.set_cons_succ, List.set_cons_zero]
          refine Lim.stepR 2 (fun _ => trivial) rfl (by kernel_rfl) (fun _ _ _ _ h => h) hC rfl ?_; apply Exists.intro; refine ⟨?_, ?_⟩
          · rintro w ⟨r1, r2, r3, r4⟩; go_simp; try with_reducible rfl
          simp only [Act.put, List.setIfInBounds_toArray, List.set_cons_succ, List.set_cons_zero]
          refine Lim.stepR 3 (fun _ => trivial) rfl (by kernel_rfl) (fun _ _ _ _ h => h) hC rfl ?_; apply Exists.intro; refine ⟨?_, ?_⟩
          · rintro w ⟨r1, r2, r3, r4⟩; go_simp; try with_reducible rfl
          simp only [Act.put, List.setIfInBounds_toArray, List.set_cons_succ, List.set_cons_zero]
          refine Lim.stepR 4 (fun _ => trivial) rfl (by kernel_rfl) (fun _ _ _ _ h => h) hC rfl ?_; apply Exists.intro; refine ⟨?_, ?_⟩
          · rintro w ⟨r1, r2, r3, r4⟩; go_simp; try with_reducible rfl
          simp only [Act.put, List.setIfInBounds_toArray, List.set_cons_succ, List.set_cons_zero]
          refine Lim.stepE 5 (fun _ => trivial) rfl (by kernel_rfl) rfl (fun K hK => ?_)   -- E call
          go_simp
          refine ⟨rfl, (callsIn_wide.2 (neighbours_any _ _ _ _ ⟨_, _, _, rfl⟩)).mono ?_⟩
          rintro e w8 ⟨rfl, rfl⟩
          have hB8 := nbrW_below w7.drew #[.int .i64 m.wd, .slice oa' m.n oc'] (.int .i64 p) 25 3
          have HN8 := Lib.hid (Ne.made (wd := m.wd) (N := m.n) (cap := oc') (c := p) (ha := oa') w7.drew)
          have HM8 : Hid (OuM w B b g m r kk j q3 q5 qm q7 q8 bs M mn F q0 ((w7.drew.alloc (.cells #[.int .i64 m.wd, .slice oa' m.n oc'] 25)).alloc (.cells #[.int .i64 p] 3)) ∧ Marks (bs + 1) ds ((w7.drew.alloc (.cells #[.int .i64 m.wd, .slice oa' m.n oc'] 25)).alloc (.cells #[.int .i64 p] 3)) ∧ StA bs bp (w7.drew.heap.size + 2) ((w7.drew.alloc (.cells #[.int .i64 m.wd, .slice oa' m.n oc'] 25)).alloc (.cells #[.int .i64 p] 3)) ∧ ((w7.drew.alloc (.cells #[.int .i64 m.wd, .slice oa' m.n oc'] 25)).alloc (.cells #[.int .i64 p] 3)).cell? ⟨bp, 0, none⟩ = some (.int .i64 p) ∧ (bs < bp ∧ bp < w7.drew.heap.size ∧ w7.drew.heap.size + 2 = ((w7.drew.alloc (.cells #[.int .i64 m.wd, .slice oa' m.n oc'] 25)).alloc (.cells #[.int .i64 p] 3)).heap.size)) :=
            Lib.hid ⟨(HM7.out.1.below (Below.refl _ w7).drew).below hB8, (HM7.out.2.1.keep (KeepsOthers.drew w7)).keep (keeps_of_below hB8), (HM7.out.2.2.2.2.2.2 _).sep HM7.out.1.st (T := fun _ => False) ((Sep.drew w7).trans (Sep.of_below hB8)) id, hB8.on HM7.out.2.2.2.1, HM7.out.2.2.1, HM7.out.2.2.2.2.2.1, by simp⟩
          have hC8 : (fun W => W.cell? ⟨q3, 0, none⟩ = some (.pointer (some ⟨b, 0, none⟩)) ∧ W.cell? ⟨b, 0, none⟩ = some (.int .i64 m.wd) ∧ W.cell? ⟨b, 1, none⟩ = some (.slice oa' m.n oc') ∧ W.cell? ⟨bp, 0, none⟩ = some (.int .i64 p)) ((w7.drew.alloc (.cells #[.int .i64 m.wd, .slice oa' m.n oc'] 25)).alloc (.cells #[.int .i64 p] 3)) := ⟨hB8.on hC.1, hB8.on hC.2.1, hB8.on hC.2.2.1, hB8.on hC.2.2.2⟩
          refine hK _ _ hC8 ?_
          simp only [Act.put, List.setIfInBounds_toArray, List.set_cons_succ, List.set_cons_zero]
          refine Lim.stepD (by kernel_rfl) ?_
          generalize hW8 : (w7.drew.alloc (.cells #[.int .i64 m.wd, .slice oa' m.n oc'] 25)).alloc (.cells #[.int .i64 p] 3) = w8 at HN8 HM8 hC8 ⊢
          clear hW8 hC hC8 ho1 hB8
          obtain ⟨bq, hbq⟩ : ∃ x, x = w7.drew.heap.size := ⟨_, rfl⟩
          rw [← hbq] at HN8 HM8 ⊢
          clear hbq HM7
          go_wp2_with fail
          have HJ := Lib.hid (And.intro hJ2 hK2)
          clear hJ2 hK2
          refine wp_range (xs := nbrL m.wd m.n p) rfl (enters_of Try.func132 (by kernel_rfl) rfl) (Ne bq (bq + 1) m.wd m.n oc' p oa')
            (nbr_iter HM.out.1.w0 (Nat.le_trans HM.out.1.wn HM.out.1.n1) hn (by omega) HN8.out)
            (fun pre W' => ∃ (M' : Nat → Bool) (mn' : Nat) (F' : Int → Int) (rk' : Nat → Nat) (t' : Nat) (q' : List Nat), Hid (BMid m (Free m r j) (fun c => r c = i) (rimB m) M' F' rk' t' q' p pre ∧ 2 * unN (unR M') m.n + q'.length < mi ∧ mn' + unN (unR M') m.n ≤ 200 ∧ t' ≤ mn' + 1) ∧ Hid (OuM w B b g m r kk j q3 q5 qm q7 q8 bs M' mn' F' q' W') ∧ Hid (MarksLt (bs + 1) w8.heap.size ds W') ∧ Hid (StA bs bp (bq + 2) W') ∧ Hid (W'.cell? ⟨bp, 0, none⟩ = some (.int .i64 p)) ∧ Ne bq (bq + 1) m.wd m.n oc' p oa' W')
            (fun _ _ _ => False) (fun _ _ h => by obtain ⟨_, _, _, _, _, _, _, _, _, _, _, h⟩ := h; exact h) (fun _ _ h hs => h.steady hs) ?sI (fun _ _ _ _ h _ => h)
            ⟨M, mn, F, rk, t, q0, Lib.hid ⟨HB5.out.1.pop HRI.out, by have := HB5.out.2.1; simp at this; omega, HB5.out.2.2.1, HB5.out.2.2.2.1⟩, Lib.hid HM8.out.1, Lib.hid (MarksLt.of_marks HM8.out.2.1), Lib.hid HM8.out.2.2.1, Lib.hid HM8.out.2.2.2.1, HN8.out⟩ ?a1 ?assign ?body ?done ?stop
          case sI =>
            rintro _ _ _ ⟨M', mn', F', rk', t', q', h1, h2, h3, h4, h5, h6⟩ hs
            have hle := HM8.out.2.2.2.2
            exact ⟨M', mn', F', rk', t', q', h1, Lib.hid (h2.out.steady hs (by omega)), Lib.hid (h3.out.steady hs), Lib.hid (h4.out.steady h2.out.st hs), Lib.hid (hs.cell h5.out), h6.steady hs⟩
          case a1 => exact fun z => { tmps := #[x 0, x 1, x 2, .pointer (some ⟨q3, 0, none⟩), x 4, x 5, x 6, .pointer (some ⟨q7, 0, none⟩), .pointer (some ⟨q8, 0, none⟩), .pointer (some ⟨bs, 0, none⟩), x 10, x 11, .pointer (some ⟨bp, 0, none⟩), x 13, .int .i64 z, x 15, x 16, x 17, x 18, x 19, x 20, x 21, x 22, x 23, x 24, x 25, x 26, x 27, x 28, x 29, x 30, x 31, x 32, x 33, x 34, x 35, x 36, x 37, x 38, x 39, x 40, x 41, x 42, x 43, .pointer (some ⟨bs, 0, none⟩), .slice sa L sc, .int .i64 L, .bool true, .int .i64 p, .pointer (some ⟨b, 0, none⟩), .pointer (some ⟨b, 0, none⟩), .pointer (some ⟨b, 0, none⟩), .agg #[.int .i64 m.wd, .slice oa m.n oc], .int .i64 p, .bool false, x 55, x 56, x 57, x 58, x 59, x 60, x 61, x 62, x 63, x 64, x 65, x 66, .pointer (some ⟨b, 0, none⟩), .pointer (some ⟨b, 0, none⟩), .pointer (some ⟨b, 0, none⟩), .agg #[.int .i64 m.wd, .slice oa' m.n oc'], .int .i64 p, .func (.func 132) #[] #[.pointer (some ⟨bq + 1, 0, none⟩), .pointer (some ⟨bq, 0, none⟩)], .int .i64 z, x 74, x 75, x 76, x 77, x 78, x 79, x 80, x 81, x 82, x 83, x 84, x 85, x 86], defers := [] }
          case assign =>
            intro l z W' K hK
            gi_wp2
            exact hK
          case stop => rintro _ _ _ _ _ _ h; exact h.elim
          case done =>
            rintro D W' hD ⟨M', mn', F', rk', t', q', h1, h2, h3, h4, h5, h6⟩ hk
            refine HJ.out.2 _ _ ?_
            exact .intro _ h1.out.2.1 (HJ.out.1 _ _ _ ⟨M', mn', F', rk', t', q', by unfold FrU; rfl, h3.out.cons (by have := HM8.out.2.2.2.2; omega) hD hk, Lib.hid ⟨h2.out, h1.out.1.done, rfl, h1.out.2.2.1, h1.out.2.2.2, by have := h1.out.2.1; have := HB5.out.2.2.2.2; omega⟩⟩)
          case body =>
            rintro l pre z W' hx ⟨M', mn', F', rk', t', q', h1, h2, h3, h4, h5, h6⟩
            obtain ⟨c, rfl, hcn⟩ := mem_nbrL HM.out.1.w0 HM.out.1.dv hpn hx
            have HNB : Hid (nb m p c) := Lib.hid hx
            have hc64 : (c : Int) < 100 := by omega
            have c8 := h2.out.c8
            have HFR := Lib.hid (free_any (w := W') hn hcn h2.out.c3 h2.out.wk.c2 (h2.out.wk.row.c c hcn) h2.out.c5 (h2.out.mt c (by omega)).1)
            clear hx
            refine wpIn_block ?_
            gi_wp2_with fail
            refine ⟨trivial, rfl, ?_⟩
            refine ((callsIn_wide.2 HFR.out).inRound l).mono ?_
            rintro e W2 ⟨rfl, hb2⟩
            have H2 := Lib.hid (h2.out.below hb2)
            have HK2 : Hid (KeepsOthers W' W2 ∧ StA bs bp (bq + 2) W2 ∧ W2.cell? ⟨bp, 0, none⟩ = some (.int .i64 p) ∧ Ne bq (bq + 1) m.wd m.n oc' p oa' W2) := Lib.hid ⟨keeps_of_below hb2, h4.out.sep h2.out.st (T := fun _ => False) (Sep.of_below hb2) id, hb2.on h5.out, h6.below hb2⟩
            clear hb2 HFR c8
            obtain ⟨fr, hfr⟩ : ∃ fr, fr = (decide (r c ≠ j) && !M' c) := ⟨_, rfl⟩
            rw [← hfr]
            have HFV := Lib.hid hfr
            clear hfr
            cases fr with
            | false =>
              have HS : Hid (Free m r j c → M' c = true) := Lib.hid (fun h => by
                have h3 := HFV.out
                rw [decide_eq_true h.2] at h3
                cases hM : M' c with
                | true => rfl
                | false => rw [hM] at h3; cases h3)
              gi_wp2_with fail
              exact ⟨HK2.out.1.from _, M', mn', F', rk', t', q', Lib.hid ⟨h1.out.1.skip HS.out, h1.out.2⟩, H2, Lib.hid (h3.out.keeps HK2.out.1), Lib.hid HK2.out.2.1, Lib.hid HK2.out.2.2.1, HK2.out.2.2.2⟩
            | true =>
              have HA : Hid (Free m r j c ∧ M' c = false) := Lib.hid (by
                have h3 := HFV.out.symm
                rw [Bool.and_eq_true, decide_eq_true_iff, Bool.not_eq_true'] at h3
                exact ⟨⟨hcn, h3.1⟩, h3.2⟩)
              have hp64 : (p : Int) < 100 := by omega
              have M4 := (H2.out.mark (p := c) (by omega)).below (Below.refl _ _).drew
              obtain ⟨w4, hrun, hmap, hgr⟩ := M4.mp.update (c := c) (v := p) (by have := h1.out.2.2.1; unfold maxLen; omega) (WalkArith.wf_i64 ⟨by omega, by omega⟩) (WalkArith.wf_i64 ⟨by omega, by omega⟩)
              have M5 := Lib.hid (M4.note hmap hgr)
              obtain ⟨m4, m5⟩ := H2.out.mt c (by omega)
              have hl2 := H2.out.lt
              have hl8 := HM8.out.2.2.2.2
              have hs4 : Sep (fun k => k = b ∨ k = qm) W2 w4 := (((Sep.set W2 b (4 + c) (.bool true)).mono (fun k hk => .inl hk)).trans (Sep.drew _)).trans ((Sep.of_grown hgr).mono (fun k hk => by cases hk; exact .inr rfl))
              have HK4 : Hid (KeepsFrom w8.heap.size W' w4 ∧ MarksLt (bs + 1) w8.heap.size ds w4 ∧ StA bs bp (bq + 2) w4 ∧ w4.cell? ⟨bp, 0, none⟩ = some (.int .i64 p) ∧ Ne bq (bq + 1) m.wd m.n oc' p oa' w4) := by
                have k1 : KeepsOthers W' (W2.setCell ⟨b, 4 + c, none⟩ (.bool true)).drew := (HK2.out.1.trans (KeepsOthers.setCell _ ⟨b, 4 + c, none⟩ _)).trans (KeepsOthers.drew _)
                exact Lib.hid ⟨(k1.from _).trans (KeepsFrom.of_grownBy hgr (fun j e => by cases e; omega)), (h3.out.keeps k1).grown hgr (fun r e => by cases e; omega), HK2.out.2.1.sep H2.out.st hs4 (by omega), hs4.cell HK2.out.2.2.1 (by omega), hs4.cell HK2.out.2.2.2.1 (by omega), hs4.cell HK2.out.2.2.2.2.1 (by omega), hs4.cell HK2.out.2.2.2.2.2 (by omega)⟩
              have hC4 : (fun W => W.cell? ⟨q3, 0, none⟩ = some (.pointer (some ⟨b, 0, none⟩)) ∧ W.cell? ⟨q7, 0, none⟩ = some (.map (some qm)) ∧ W.cell? ⟨bp, 0, none⟩ = some (.int .i64 p)) w4 := ⟨M5.out.c3, M5.out.c7, HK4.out.2.2.2.1⟩
              have hC3 : (fun W => W.cell? ⟨q3, 0, none⟩ = some (.pointer (some ⟨b, 0, none⟩)) ∧ W.cell? ⟨q7, 0, none⟩ = some (.map (some qm)) ∧ W.cell? ⟨bp, 0, none⟩ = some (.int .i64 p)) (W2.setCell ⟨b, 4 + c, none⟩ (.bool true)).drew := ⟨M4.c3, M4.c7, (setCell_far _ _ (by omega)).trans HK2.out.2.2.1⟩
              have hC : (fun W => W.cell? ⟨q3, 0, none⟩ = some (.pointer (some ⟨b, 0, none⟩)) ∧ W.cell? ⟨q7, 0, none⟩ = some (.map (some qm)) ∧ W.cell? ⟨bp, 0, none⟩ = some (.int .i64 p)) W2.drew := ⟨H2.out.c3, H2.out.c7, HK2.out.2.2.1⟩
              clear hmap hgr hs4 hl2 hl8 M4
              gi_wp2_with fail
              refine Lim.regC (fun W => W.cell? ⟨q3, 0, none⟩ = some (.pointer (some ⟨b, 0, none⟩)) ∧ W.cell? ⟨q7, 0, none⟩ = some (.map (some qm)) ∧ W.cell? ⟨bp, 0, none⟩ = some (.int .i64 p)) [] #[false, false, false, false, false, false, false, false, false, false] (by kernel_rfl) rfl ?_
              refine Lim.stepR 0 (fun _ => trivial) rfl (by kernel_rfl) (fun _ _ _ _ h => h) hC rfl ?_; apply Exists.intro; refine ⟨?_, ?_⟩
              · rintro w ⟨r1, r2, r3⟩; go_simp; try with_reducible rfl
              simp only [Act.put, List.setIfInBounds_toArray, List.set_cons_succ, List.set_cons_zero]
              refine Lim.stepR 1 (fun _ => trivial) rfl (by kernel_rfl) (fun _ _ _ _ h => h) hC rfl ?_; apply Exists.intro; refine ⟨?_, ?_⟩
              · rintro w ⟨r1, r2, r3⟩; go_simp; try with_reducible rfl
              simp only [Act.put, List.setIfInBounds_toArray, List.set_cons_succ, List.set_cons_zero]
              refine Lim.stepR 2 (fun _ => trivial) rfl (by kernel_rfl) (fun _ _ _ _ h => h) hC rfl ?_; apply Exists.intro; refine ⟨?_, ?_⟩
              · rintro w ⟨r1, r2, r3⟩; go_simp; try with_reducible rfl
              simp only [Act.put, List.setIfInBounds_toArray, List.set_cons_succ, List.set_cons_zero]
              refine Lim.stepR 3 (fun _ => trivial) rfl (by kernel_rfl) (fun _ _ _ _ h => h) hC rfl ?_; apply Exists.intro; refine ⟨?_, ?_⟩
              · rintro w ⟨r1, r2, r3⟩; go_simp; try with_reducible rfl
              simp only [Act.put, List.setIfInBounds_toArray, List.set_cons_succ, List.set_cons_zero]
              refine Lim.stepR 4 (fun _ => trivial) rfl (by kernel_rfl) (fun _ _ _ _ h => h) hC rfl ?_; apply Exists.intro; refine ⟨?_, ?_⟩
              · rintro w ⟨r1, r2, r3⟩; go_simp; try with_reducible rfl
              simp only [Act.put, List.setIfInBounds_toArray, List.set_cons_succ, List.set_cons_zero]
              refine Lim.stepR 5 (fun _ => trivial) rfl (by kernel_rfl) (fun _ _ _ _ h => h) hC rfl ?_; apply Exists.intro; refine ⟨?_, ?_⟩
              · rintro w ⟨r1, r2, r3⟩; go_simp; try with_reducible rfl
              simp only [Act.put, List.setIfInBounds_toArray, List.set_cons_succ, List.set_cons_zero]
              refine Lim.stepR 6 (fun _ => trivial) rfl (by kernel_rfl) (fun _ _ _ _ h => h) hC rfl ?_; apply Exists.intro; refine ⟨?_, ?_⟩
              · rintro w ⟨r1, r2, r3⟩; go_simp; try with_reducible rfl
              simp only [Act.put, List.setIfInBounds_toArray, List.set_cons_succ, List.set_cons_zero]
              refine Lim.stepR 7 (fun _ => trivial) rfl (by kernel_rfl) (fun _ _ _ _ h => h) hC rfl ?_; apply Exists.intro; refine ⟨?_, ?_⟩
              · rintro w ⟨r1, r2, r3⟩; go_simp; try with_reducible rfl
              simp only [Act.put, List.setIfInBounds_toArray, List.set_cons_succ, List.set_cons_zero]
              refine Lim.stepE 8 (fun _ => trivial) rfl (by kernel_rfl) rfl (fun K hK => ?_)   -- E store
              go_simp
              refine hK _ _ hC3 ?_
              simp only [Act.put, List.setIfInBounds_toArray, List.set_cons_succ, List.set_cons_zero]
              refine Lim.stepE 9 (fun _ => trivial) rfl (by kernel_rfl) rfl (fun K hK => ?_)   -- E mapUpdate
              go_simp
              refine hK _ _ hC4 ?_
              simp only [Act.put, List.setIfInBounds_toArray, List.set_cons_succ, List.set_cons_zero]
              refine Lim.stepD (by kernel_rfl) ?_
              clear hC hC3 hC4 hrun m4 m5 HK2 H2
              gi_wp2_with fail
              refine ⟨trivial, rfl, ?_⟩
              refine ((callsIn_wide.2 (put_st (x := c) M5.out.st (by have := h1.out.2.1; have := HB5.out.2.2.2.2; omega))).inRound l).mono ?_
              rintro e WA ⟨rfl, hst, hsep, hnew⟩
              have HFIN : Hid (OuM w B b g m r kk j q3 q5 qm q7 q8 bs (updB M' c) (mn' + 1) (fun x => if x = (c : Int) then (p : Int) else F' x) (q' ++ [c]) WA ∧ KeepsFrom w8.heap.size W' WA ∧ MarksLt (bs + 1) w8.heap.size ds WA ∧ StA bs bp (bq + 2) WA ∧ WA.cell? ⟨bp, 0, none⟩ = some (.int .i64 p) ∧ Ne bq (bq + 1) m.wd m.n oc' p oa' WA ∧ 2 * unN (unR (updB M' c)) m.n + (q' ++ [c]).length < mi ∧ mn' + 1 + unN (unR (updB M' c)) m.n ≤ 200) := by
                have hl8 := HM8.out.2.2.2.2
                have hnb : ∀ x, bp ≤ x → x < bq + 2 → ¬ StT bs w4 x := fun x h5 h6 h7 => by
                  have := StT.apart HK4.out.2.2.1 hl8.1 h7
                  omega
                have kA := hsep.keeps (fun j o h1 h2 => StT.cells M5.out.st j o h1 h2)
                have hun : unN (unR (updB M' c)) m.n + 1 = unN (unR M') m.n := by
                  rw [unR_upd]
                  exact unN_upd (by unfold unR; rw [HA.out.2]; rfl) (by omega) m.n hcn
                refine Lib.hid ⟨M5.out.sep hsep (fun x hx => StT.ge M5.out.st hx) hst, HK4.out.1.trans (kA.from _), HK4.out.2.1.keeps kA, fun u y hu hy => ?_, hsep.cell HK4.out.2.2.2.1 (hnb _ (by omega) (by omega)), ⟨hsep.cell HK4.out.2.2.2.2.1 (hnb _ (by omega) (by omega)), hsep.cell HK4.out.2.2.2.2.2.1 (hnb _ (by omega) (by omega)), hsep.cell HK4.out.2.2.2.2.2.2 (hnb _ (by omega) (by omega))⟩, ?_, ?_⟩
                · rcases hnew y (.inr ⟨u, hu, hy⟩) with h | h
                  · exact StT.apart HK4.out.2.2.1 hl8.1 h
                  · have hq9 := World.block_lt_of_cell? _ _ HK4.out.2.2.2.2.2.2
                    have hq9 : bq + 1 < w4.heap.size := hq9
                    exact .inr (by omega)
                · have := h1.out.2.1
                  simp; omega
                · have := h1.out.2.2.1
                  omega
              clear hst hsep hnew M5 HK4
              gi_wp2_with fail
              exact ⟨HFIN.out.2.1, updB M' c, mn' + 1, _, _, t' + 1, q' ++ [c], Lib.hid ⟨h1.out.1.add HM.out.1 HNB.out HA.out.1 HA.out.2, HFIN.out.2.2.2.2.2.2.1, HFIN.out.2.2.2.2.2.2.2, by have := h1.out.2.2.2; omega⟩, Lib.hid HFIN.out.1, Lib.hid HFIN.out.2.2.1, Lib.hid HFIN.out.2.2.2.1, Lib.hid HFIN.out.2.2.2.2.1, HFIN.out.2.2.2.2.2.1⟩
end Go.Proofs.Ytiacgaplhndlnaa
