/-
  Parts of the proof, in the order in which they build: EzS, EzT, EzX, EzY, EzNx, EzZ.
-/
import Derived.Maps.RangeWalk
import Derived.Maps.AppendAt
import Derived.Deep.CutRange
import Derived.BigQuiet
import Derived.Great.BuildSlice
import Derived.Deep.Onto
import Derived.Test.YtkjcnkkmhkcddaaA10
import Derived.Test.YtkjcnkkmhkcddaaA59
import Derived.Test.YtkjcnkkmhkcddaaA41
import Derived.Test.YtkjcnkkmhkcddaaA34
import Derived.Test.YtkjcnkkmhkcddaaA43
set_option linter.unusedVariables false
set_option linter.unusedSimpArgs false
/-
  Maps from sides to numbers, at keys of any two numbers.
-/
namespace Go.Proofs.Ytkjcnkkmhkcddaa
open Go Go.RowKit Go.ChangeMaps Go.WideShapes
open Go.WideElems (rg)
namespace Lim

/-- a side as a key, of any two numbers -/
def sideI (x y : Int) : Lit := .string (keyBytes [.int .i64 x, .int .i64 y])
theorem sideI_nat (x y : Nat) : sideI x y = sideL x y := rfl
theorem sideKeyI (x y : Int) : WideAt.IsKeyLit (sideI x y) := trivial
set_option maxRecDepth 100000 in
theorem keyOf_sideI {x y : Int} (h1 : (Lit.int .i64 x).wf = true) (h2 : (Lit.int .i64 y).wf = true) : keyOf Try.prog 120 (.agg #[.int .i64 x, .int .i64 y]) = some (sideI x y) := by
  have hf : (Value.agg #[.int .i64 x, .int .i64 y]).formed Try.prog 120 = true := by simp [Value.formed, Try.underlying120, cellsSide]
  have hk := typeSide
  obtain ⟨d, hd⟩ : ∃ d, Try.prog.types.size = d + 1 := suc_of_lt rowSide
  have hl : Try.prog.keyLits (Try.prog.types.size + 1) 120 (Value.agg #[.int .i64 x, .int .i64 y]).cells.toList = some [.int .i64 x, .int .i64 y] := by
    rw [hd]
    simp [Program.keyLits, Try.underlying120, Value.cells, cellsSide, cellsInt, Try.underlying3, h1, h2]
  unfold keyOf
  rw [Try.underlying120]
  simp only [hk, hf, hl, Bool.and_self, if_true, Option.map_some]
  rfl
set_option maxRecDepth 100000 in
theorem keyOf_side_inv {key : Value} {kl : Lit} (h : keyOf Try.prog 120 key = some kl) : ∃ x : Int × Int, key = .agg #[.int .i64 x.1, .int .i64 x.2] ∧ (Lit.int .i64 x.1).wf = true ∧ (Lit.int .i64 x.2).wf = true ∧ kl = sideI x.1 x.2 := by
  have hk := typeSide
  obtain ⟨d, hd⟩ : ∃ d, Try.prog.types.size = d + 1 := suc_of_lt rowSide
  unfold keyOf at h
  rw [Try.underlying120] at h
  simp only [hk, Bool.true_and] at h
  by_cases hf : key.formed Try.prog 120 = true
  · rw [if_pos hf] at h
    cases key with
    | agg cs =>
      simp [Value.formed, Try.underlying120, cellsSide] at hf
      obtain ⟨l⟩ := cs
      match l, hf with
      | [a, b], _ =>
        rw [hd] at h
        cases a <;> cases b <;> simp [Program.keyLits, Try.underlying120, Value.cells, cellsSide, cellsInt, Try.underlying3] at h
        rename_i q1 n1 q2 n2 _
        by_cases c1 : q1 = IntKind.i64 ∧ (Lit.int IntKind.i64 n1).wf = true
        · by_cases c2 : q2 = IntKind.i64 ∧ (Lit.int IntKind.i64 n2).wf = true
          · rw [if_pos c1, if_pos c2] at h
            obtain ⟨rfl, w1⟩ := c1
            obtain ⟨rfl, w2⟩ := c2
            simp at h
            exact ⟨(n1, n2), rfl, w1, w2, h.symm⟩
          · rw [if_pos c1, if_neg c2] at h
            simp at h
        · rw [if_neg c1] at h
          simp at h
    | _ => simp [Value.formed, Try.underlying120] at hf
  · rw [if_neg hf] at h; cases h
theorem sideI_inj {x y x' y' : Int} (h1 : (Lit.int .i64 x).wf = true) (h2 : (Lit.int .i64 y).wf = true) (h3 : (Lit.int .i64 x').wf = true) (h4 : (Lit.int .i64 y').wf = true) : sideI x y = sideI x' y' ↔ x = x' ∧ y = y' := by
  refine ⟨fun h => ?_, fun h => by rw [h.1, h.2]⟩
  have := keySide.inj (keyOf_sideI h1 h2) (h ▸ keyOf_sideI h3 h4)
  simpa only [Value.agg.injEq, Array.mk.injEq, List.cons.injEq, Value.int.injEq, true_and, and_true] using this
theorem wf_nat {x : Nat} (hx : x < 1000) : (Lit.int .i64 (x : Int)).wf = true := WalkArith.wf_i64 ⟨by omega, by omega⟩
/-- any key is looked up: some number -/
theorem MapS.lookupI {w : World} {b n : Nat} {F : Nat → Nat → Option Int} (h : MapS w b n F) {x y : Int} (h1 : (Lit.int .i64 x).wf = true) (h2 : (Lit.int .i64 y).wf = true) :
    ∃ v : Int, (Instr.lookup 106 (.map (some b)) (.agg #[.int .i64 x, .int .i64 y]) false).run Try.prog w = .ok (.int .i64 v) w ∧ ∀ a c : Nat, a < 1000 → c < 1000 → x = a → y = c → v = (F a c).getD 0 := by
  obtain ⟨D, hD, hF⟩ := h
  obtain ⟨v, hrun, hat, _⟩ := hD.lookup_int keySide Try.underlying106 Try.underlying3 (by kernel_rfl) (keyOf_sideI h1 h2)
  refine ⟨v, hrun, fun a c ha hc hx hy => ?_⟩
  subst hx hy
  have h3 := (hF a c ha hc).2
  rw [sideI_nat] at hat
  rw [hat] at h3
  simpa using h3
theorem ranges_has {w : World} {b r n : Nat} {R : Value → Option (DataW Unit × List MemPlace)} {D : DataW Unit} {left : Lit → Bool} {cnt : Nat} (h : w.ranges Try.prog 120 R b r n D left cnt) {kl : Lit} (hl : left kl = true) : Maps.has D kl = true := by
  obtain ⟨es, clock, since, seen, c0, _, F, _, rfl, _, _, _, _, h2, _⟩ := h
  obtain ⟨x, hx, rfl⟩ := h2 kl hl
  obtain ⟨y, hy⟩ := F.reads x hx
  exact List.any_eq_true.2 ⟨rg Try.prog 120 R x, mem_sorted.2 (List.mem_map.2 ⟨x, hx, rfl⟩), WideAt.sameKey_self (by rw [Go.WideElems.rg_of hy]; exact keySide.key (Go.WideElems.rd_key hy))⟩
/-- any key is written -/
theorem MapS.updateI {w : World} {b n : Nat} {F : Nat → Nat → Option Int} (h : MapS w b n F) (hn : n < maxLen) {x y : Int} (h1 : (Lit.int .i64 x).wf = true) (h2 : (Lit.int .i64 y).wf = true) {v : Int} (hv : (Lit.int .i64 v).wf = true) :
    ∃ w', (Instr.mapUpdate 106 (.map (some b)) (.agg #[.int .i64 x, .int .i64 y]) (.int .i64 v)).run Try.prog w = .ok () w' ∧ MapS w' b (n + 1) (fun a c => if (a : Int) = x ∧ (c : Int) = y then some v else F a c) ∧ w.grownBy w' (some b) := by
  obtain ⟨D, hD, hF⟩ := h
  obtain ⟨w', hrun, hD', hg⟩ := hD.update keySide Try.underlying106 hn (keyOf_sideI h1 h2) (plainElem_int Try.underlying3 hv)
  refine ⟨w', hrun, ⟨_, hD', fun a c ha hc => ?_⟩, hg⟩
  by_cases e : (a : Int) = x ∧ (c : Int) = y
  · obtain ⟨rfl, rfl⟩ := e
    rw [← sideI_nat, Go.Maps.atKey_put_same (k := sideI a c) hD.isMap trivial, Go.Maps.has_put_same (k := sideI a c) hD.isMap trivial]; simp
  · have e' : sideL a c ≠ sideI x y := fun h => e ((sideI_inj (wf_nat ha) (wf_nat hc) h1 h2).mp h)
    rw [Go.Maps.atKey_put_other (by simpa using e'), Go.Maps.has_put_other (by simpa using e'), (hF a c ha hc).1, (hF a c ha hc).2]; simp [e]
/-- the map D is ranged over; G is what has been written so far: what V says at the sides that are done -/
def DoneS (D : DataW Unit) (left : Lit → Bool) (V : Nat → Nat → Int) (G : Nat → Nat → Option Int) : Prop :=
  ∀ a c, a < 1000 → c < 1000 → G a c = if Maps.has D (sideL a c) = true ∧ left (sideL a c) = false then some (V a c) else none
theorem DoneS.start (D : DataW Unit) (V : Nat → Nat → Int) : DoneS D (Maps.has D) V (fun _ _ => none) := fun a c _ _ => by
  rw [if_neg]
  rintro ⟨h1, h2⟩
  rw [h1] at h2; cases h2
theorem DoneS.step {D : DataW Unit} {left : Lit → Bool} {V : Nat → Nat → Int} {G : Nat → Nat → Option Int} (h : DoneS D left V G) {x y v : Int} (h1 : (Lit.int .i64 x).wf = true) (h2 : (Lit.int .i64 y).wf = true) (hd : Maps.has D (sideI x y) = true) (hv : ∀ a c : Nat, a < 1000 → c < 1000 → x = a → y = c → v = V a c) :
    DoneS D (fun z => left z && !z.sameKey (sideI x y)) V (fun a c => if (a : Int) = x ∧ (c : Int) = y then some v else G a c) := fun a c ha hc => by
  show (if (a : Int) = x ∧ (c : Int) = y then some v else G a c) = if Maps.has D (sideL a c) = true ∧ (left (sideL a c) && !(sideL a c).sameKey (sideI x y)) = false then some (V a c) else none
  by_cases e : (a : Int) = x ∧ (c : Int) = y
  · obtain ⟨rfl, rfl⟩ := e
    rw [if_pos ⟨rfl, rfl⟩, if_pos, hv a c ha hc rfl rfl]
    refine ⟨hd, ?_⟩
    have : (sideL a c).sameKey (sideI (a : Int) (c : Int)) = true := WideAt.sameKey_self (sideKeyI _ _)
    simp [this]
  · rw [if_neg e, h a c ha hc]
    have hne : (sideL a c).sameKey (sideI x y) = false := by
      cases hs : (sideL a c).sameKey (sideI x y) with
      | false => rfl
      | true => exact absurd ((sideI_inj (wf_nat ha) (wf_nat hc) h1 h2).mp (WideAt.sameKey_eq hs)) e
    simp [hne]
end Lim
end Go.Proofs.Ytkjcnkkmhkcddaa
/-
  Walks that prove how many houses are cut at least.
-/
namespace Go.Proofs.Ytkjcnkkmhkcddaa
open Go.RowKit Go.Shelf
open Lim

attribute [local go_sem] Oper.semAt_some

theorem wf_wrapI (e : Int) : (Lit.int .i64 (IntKind.i64.wrap e)).wf = true := by
  simp [Lit.wf, IntKind.wrap, IntKind.min, IntKind.max, IntKind.signed, IntKind.bits] <;> (try split) <;> omega
/-- the flow goes by another map -/
theorem FlE.room {W : World} {B bf bm n wd c : Nat} {oa : Option Addr} {oc : Nat} {ev sv : Value} {os : List Int} {M : Nat → Bool} {Fr : Nat → Int} {R : Nat → Nat → Option Int} (h : FlE W B bf bm n wd c oa oc ev sv os M Fr R) {bg c' : Nat} {R' : Nat → Nat → Option Int} (hg : B ≤ bg) (hne : bf ≠ bg) (hm : MapS W bg c' R') :
    FlE (W.setCell ⟨bf, 4, none⟩ (.map (some bg))) B bf bg n wd c' oa oc ev sv os M Fr R' := by
  have hB : B ≤ W.heap.size := by have := h.bf_lt; have := h.lt.1; omega
  have hs := Sep.set W bf 4 (.map (some bg))
  have off : ∀ {j : Nat} {v : Value}, j ≠ 4 → W.cell? ⟨bf, j, none⟩ = some v → (W.setCell ⟨bf, 4, none⟩ (.map (some bg))).cell? ⟨bf, j, none⟩ = some v := fun hj hc => by rw [setCell_off _ _ (Ne.symm hj)]; exact hc
  exact ⟨⟨h.lt.1, hg, hne⟩, ⟨off (by omega) h.ld.f0, off (by omega) h.ld.f1, off (by omega) h.ld.f2, off (by omega) h.ld.f3⟩, ⟨setCell_same _ _ h.c4.1, by rw [World.frozen?_setCell]; exact h.c4.2⟩, fun k hk => ⟨off (by omega) (h.met k hk).1, by rw [World.frozen?_setCell]; exact (h.met k hk).2⟩, fun k hk => ⟨off (by omega) (h.fr k hk).1, by rw [World.frozen?_setCell]; exact (h.fr k hk).2⟩, hm.sep hs (fun e => hne e.symm), h.row.below (hs.below hB (fun x hx => by rw [hx]; exact h.lt.1))⟩
/-- the frame of Walks while its second loop runs -/
def FrW (bf : Nat) (v : Value) (y : Int) (a : Act) : Prop := a = { tmps := #[Lim.sl a 0, Lim.sl a 1, Lim.sl a 2, Lim.sl a 3, Lim.sl a 4, .pointer (some ⟨bf, 0, none⟩), Lim.sl a 6, Lim.sl a 7, Lim.sl a 8, Lim.sl a 9, v, .int .i64 y, Lim.sl a 12, Lim.sl a 13, Lim.sl a 14, Lim.sl a 15, Lim.sl a 16, Lim.sl a 17, Lim.sl a 18, Lim.sl a 19, Lim.sl a 20, Lim.sl a 21, Lim.sl a 22, Lim.sl a 23, Lim.sl a 24, Lim.sl a 25, Lim.sl a 26, Lim.sl a 27, Lim.sl a 28, Lim.sl a 29, Lim.sl a 30, Lim.sl a 31, Lim.sl a 32, Lim.sl a 33, Lim.sl a 34, Lim.sl a 35, Lim.sl a 36, Lim.sl a 37, Lim.sl a 38, Lim.sl a 39, Lim.sl a 40, Lim.sl a 41, Lim.sl a 42, Lim.sl a 43, Lim.sl a 44, Lim.sl a 45, Lim.sl a 46, Lim.sl a 47, Lim.sl a 48, Lim.sl a 49, Lim.sl a 50, Lim.sl a 51, Lim.sl a 52, Lim.sl a 53, Lim.sl a 54, Lim.sl a 55, Lim.sl a 56, Lim.sl a 57, Lim.sl a 58, Lim.sl a 59, Lim.sl a 60, Lim.sl a 61, Lim.sl a 62, Lim.sl a 63, Lim.sl a 64, Lim.sl a 65, Lim.sl a 66, Lim.sl a 67, Lim.sl a 68, Lim.sl a 69, Lim.sl a 70, Lim.sl a 71, Lim.sl a 72, Lim.sl a 73, Lim.sl a 74, Lim.sl a 75, Lim.sl a 76, Lim.sl a 77, Lim.sl a 78, Lim.sl a 79, Lim.sl a 80, Lim.sl a 81, Lim.sl a 82, Lim.sl a 83, Lim.sl a 84, Lim.sl a 85, Lim.sl a 86, Lim.sl a 87, Lim.sl a 88, Lim.sl a 89, Lim.sl a 90, Lim.sl a 91], defers := a.defers }
theorem apart_types {W : World} {S S' : Nat} {r s : Row} (hr : r.Owned W S) (hs : s.Owned W S') (h : r.e ≠ s.e) : r.Apart s := fun k h1 h2 => by
  obtain ⟨-, -, c1, e1⟩ := owned_block hr h1
  obtain ⟨-, -, c2, e2⟩ := owned_block hs h2
  rw [e1] at e2
  have h3 := Option.some.inj e2
  have h4 := congrArg (fun o => match o with | .cells _ t _ => some t | _ => none) h3
  exact h (Option.some.inj h4)
theorem Mem.insert {w W : World} {S : Nat} {R : List Row} {q r : Row} (H : Mem w S R [q] [] W) (hr : r.Owned W S) (h : q.e ≠ r.e) : Mem w S (R ++ [r]) [q] [] W :=
  ⟨H.b, H.o, fun s hs => by
    rcases List.mem_append.1 hs with hs | hs
    · exact H.r s hs
    · rw [List.mem_singleton.1 hs]; exact hr, H.q, H.x, fun p hp => absurd hp List.not_mem_nil, H.xq, H.xx, H.qq, fun p hp s hs => by
    rcases List.mem_append.1 hs with hs | hs
    · exact H.qr p hp s hs
    · rw [List.mem_singleton.1 hs, List.mem_singleton.1 hp]; exact apart_types (H.q q (List.mem_singleton.2 rfl)) hr h⟩
theorem Try.infoWalk : (Try.prog.info? 83).map (fun i => (i.zero, i.size, i.bytes)) = some (some (.agg #[.slice none 0 0, .int .i64 0]), 2, 32) := by kernel_rfl
theorem wpList_build1W {ops : Array Oper} {rest : List Oper} {o : Oper} {a : Act} {w : World} {Q : Exit → Act → World → Prop} (hg : o.guard = none) (x : Operand) (ho : o.op = .buildSlice 77 1 #[(0, x)])
    {a0 a1 : Value} (hx : a.eval x = .agg #[a0, a1])
    (h : wpList Try.prog ops Q rest (a.put o.dst (.slice (some ⟨w.heap.size, 0, none⟩) 1 1)) (w.alloc (.cells #[a0, a1] 83))) : wpList Try.prog ops Q (o :: rest) a w := by
  obtain ⟨i0, hi, hz0, hz1, hz2⟩ := info_parts Try.infoWalk
  refine wpList_buildSlice hg 77 83 1 _ ho _ i0 _ Try.underlying77 hi hz0 (by rw [hz1]; decide) (by rw [hz1]; decide) ?_ h
  rw [hz1]
  simp only [List.map_toArray, List.map_cons, List.map_nil, hx]
  kernel_rfl
set_option maxRecDepth 100000 in
set_option maxHeartbeats 8000000 in
theorem walks_any {B : Nat} {m : Mp} {hi : Nat} {oa ea sa : Option Addr} {oc ec sc : Nat} {es ss : List Int} {w : World} (L : LandG m.wd hi m.os es ss) (hB : B ≤ w.heap.size) (ho : RS B w (.slice oa m.n oc) m.n (ints m.os)) (he : RS B w (.slice ea m.n ec) es.length (ints es)) (hs : RS B w (.slice sa m.n sc) ss.length (ints ss)) :
    Calls Try.prog 42 #[.agg #[.int .i64 m.wd, .slice oa m.n oc, .slice ea m.n ec, .slice sa m.n sc]] w fun e w' => Below w.heap.size w w' ∧ ∃ v ps, e = .returned (.tuple #[v, .int .i64 0]) ∧ WkR w'.heap.size w' v (wkI ps) ∧ WkDone m (hsF m.n m.wd (fun k => es.getD k 0) (fun k => ss.getD k 0)) (ps.map Prod.snd) := by
  have hm : m.Ok := ⟨L.w1, by show 0 < m.os.length; rw [L.lo]; exact Nat.mul_pos L.w1 L.h1, by show m.os.length ≤ 100; rw [L.lo]; exact L.n1, by show m.os.length % m.wd = 0; rw [L.lo]; exact Nat.mul_mod_right _ _⟩
  have hmn : m.n = m.wd * hi := L.lo
  have hlen : m.os.length ≤ 100000 ∧ es.length ≤ 100000 ∧ ss.length ≤ 100000 := by rw [L.lo, L.le, L.ls]; have := L.n1; omega
  have hel : es.length = m.n := by rw [hmn]; exact L.le
  have hsl : ss.length = m.n := by rw [hmn]; exact L.ls
  have hb0 : Below w.heap.size w (w.alloc (.cells #[.int .i64 m.wd, .slice oa m.n oc, .slice ea m.n ec, .slice sa m.n sc] 44)) := (Below.refl _ w).alloc (Nat.le_refl _) _
  have HC := Lib.hid (CheckLand_any (wd := m.wd) (w := w.alloc (.cells #[.int .i64 m.wd, .slice oa m.n oc, .slice ea m.n ec, .slice sa m.n sc] 44)) hlen (Nat.le_trans hB hb0.size) (ho.below (hb0.mono hB)) (by rw [hel]; rw [hel] at he; exact he.below (hb0.mono hB)) (by rw [hsl]; rw [hsl] at hs; exact hs.below (hb0.mono hB)))
  rw [L.err] at HC
  have HL := Lib.hid L
  have HV := Lib.hid (And.intro hB (And.intro ho (And.intro he hs)))
  have HLL := Lib.hid (And.intro hel (And.intro hsl (And.intro hm.w0 hm.wn)))
  have HE : Hid ((∀ k, k < m.n → 0 ≤ es.getD k 0 ∧ es.getD k 0 ≤ 1000) ∧ ∀ k, k < m.n → 0 ≤ ss.getD k 0 ∧ ss.getD k 0 ≤ 1000) := Lib.hid ⟨fun k hk => L.e k (by rw [← hmn]; exact hk), fun k hk => L.s k (by rw [← hmn]; exact hk)⟩
  have HMO := Lib.hid hm
  have HOW : Hid (∀ k, k < m.n → m.own k = -1 ∨ m.own k = 0 ∨ m.own k = 1) := Lib.hid fun k hk => by have := L.o k (by rw [← hmn]; exact hk); show m.os.getD k 0 = -1 ∨ m.os.getD k 0 = 0 ∨ m.os.getD k 0 = 1; omega
  have hn100 : m.n ≤ 100 := hm.n1
  have f0 : LdAt (w.alloc (.cells #[.int .i64 m.wd, .slice oa m.n oc, .slice ea m.n ec, .slice sa m.n sc] 44)) w.heap.size m.wd (.slice oa m.n oc) (.slice ea m.n ec) (.slice sa m.n sc) := LdAt.box w m.wd (.slice oa m.n oc) (.slice ea m.n ec) (.slice sa m.n sc)
  have HB0 := Lib.hid hb0
  clear hb0 hlen L hel hsl hB ho he hs hm hmn
  obtain ⟨g0, g1, g2, g3⟩ := f0
  go_enter Try.func42, Try.ntmps42
  go_wp2_with fail
  generalize w.alloc (.cells #[.int .i64 m.wd, .slice oa m.n oc, .slice ea m.n ec, .slice sa m.n sc] 44) = w1 at HB0 HC g0 g1 g2 g3 ⊢
  refine HC.out.mono ?_
  rintro e w2 ⟨rfl, hb⟩
  have HLD := Lib.hid (show LdAt w2 w.heap.size m.wd (.slice oa m.n oc) (.slice ea m.n ec) (.slice sa m.n sc) from (LdAt.mk g0 g1 g2 g3).on hb)
  have HB2 := Lib.hid (HB0.out.trans (hb.mono HB0.out.size)).drew
  clear hb HC g0 g1 g2 g3
  go_upto_region 4 with (fail)
  obtain ⟨q, hq⟩ : ∃ q, q = w.heap.size := ⟨_, rfl⟩
  have HQ := Lib.hid hq
  have hC : (fun W => LdAt W q m.wd (.slice oa m.n oc) (.slice ea m.n ec) (.slice sa m.n sc)) w2.drew := by rw [hq]; exact HLD.out.on (Below.refl _ _).drew
  rw [← hq]
  clear hq HLD HB0
  have HFU := Lib.hid (full_any (m := m) (B := B) (w := w2.drew) (E := fun k => es.getD k 0) (S := fun k => ss.getD k 0) HMO.out (Nat.le_trans HV.out.1 HB2.out.size) (HV.out.2.1.below (HB2.out.mono HV.out.1)) (HV.out.2.2.1.below (HB2.out.mono HV.out.1)) (HV.out.2.2.2.below (HB2.out.mono HV.out.1)) HLL.out.1 HLL.out.2.1 (fun _ => rfl) (fun _ => rfl) HE.out.1 HE.out.2 HOW.out)
  refine Lim.regC' (fun W => LdAt W q m.wd (.slice oa m.n oc) (.slice ea m.n ec) (.slice sa m.n sc)) [] #[false, false, false, false, false, false] (by kernel_rfl) rfl ?_
  refine Lim.stepR 0 (fun _ => trivial) rfl (by kernel_rfl) (fun _ _ _ _ h => h) hC rfl ?_; apply Exists.intro; refine ⟨?_, ?_⟩
  · rintro w ⟨r1, r2, r3, r4⟩; go_simp; try with_reducible rfl
  simp only [Act.put, List.setIfInBounds_toArray, List.set_cons_succ, List.set_cons_zero]
  refine Lim.stepR 2 (fun _ => trivial) rfl (by kernel_rfl) (fun _ _ _ _ h => h) hC rfl ?_; apply Exists.intro; refine ⟨?_, ?_⟩
  · rintro w ⟨r1, r2, r3, r4⟩; go_simp; try with_reducible rfl
  simp only [Act.put, List.setIfInBounds_toArray, List.set_cons_succ, List.set_cons_zero]
  refine Lim.stepE 1 (fun _ => trivial) rfl (by kernel_rfl) rfl (fun K hK => ?_)   -- E call
  go_simp
  refine ⟨rfl, (callsIn_wide.2 HFU.out).mono ?_⟩
  rintro e w3 ⟨hb3, bf, bm, c, M, Fr, R, g, rk, t, rfl, hbf, hbm, hfl, hfull, hD⟩
  have HFL3 := Lib.hid hfl
  have HFF := Lib.hid (And.intro hfull hD)
  have HB3 := Lib.hid (And.intro (HB2.out.trans (hb3.mono HB2.out.size)) (And.intro hbf hbm))
  have HHO := Lib.hid (houses_aux (B := B) (w := w3) (n := m.n) (wd := m.wd) (ov := .slice oa m.n oc) (ev := .slice ea m.n ec) (sv := .slice sa m.n sc) (E := fun k => es.getD k 0) (S := fun k => ss.getD k 0) (Nat.le_trans HV.out.1 HB3.out.1.size) rfl (HV.out.2.2.1.below (HB3.out.1.mono HV.out.1)) (HV.out.2.2.2.below (HB3.out.1.mono HV.out.1)) HLL.out.1 HLL.out.2.1 hn100 HLL.out.2.2.1 HLL.out.2.2.2 (fun _ => rfl) (fun _ => rfl) HE.out.1 HE.out.2)
  have hC3 : (fun W => LdAt W q m.wd (.slice oa m.n oc) (.slice ea m.n ec) (.slice sa m.n sc)) w3 := hC.on hb3
  refine hK _ _ hC3 ?_
  clear hb3 hfl hfull hD HFU hbf hbm
  simp only [Act.put, List.setIfInBounds_toArray, List.set_cons_succ, List.set_cons_zero]
  refine Lim.stepE 3 (fun _ => trivial) rfl (by kernel_rfl) rfl (fun K hK => ?_)   -- E call
  go_simp
  refine ⟨rfl, (callsIn_wide.2 HHO.out).mono ?_⟩
  rintro e w4 ⟨ba, rfl, hba, hmp, hb4⟩
  have HMP4 := Lib.hid hmp
  have HBA := Lib.hid hba
  have HFL4 := Lib.hid (HFL3.out.on hb4)
  have HB4 := Lib.hid (HB3.out.1.trans (hb4.mono HB3.out.1.size))
  have hC4' : (fun W => LdAt W q m.wd (.slice oa m.n oc) (.slice ea m.n ec) (.slice sa m.n sc)) w4 := hC3.on hb4
  have HLT := Lib.hid (show bf < w4.heap.size ∧ bm < w4.heap.size ∧ bf < ba ∧ bm < ba from ⟨HFL4.out.bf_lt, HFL4.out.rm.lt, Nat.lt_of_lt_of_le HFL3.out.bf_lt hba, Nat.lt_of_lt_of_le HFL3.out.rm.lt hba⟩)
  refine hK _ _ hC4' ?_
  clear hb4 hmp hba HFL3 HHO
  simp only [Act.put, List.setIfInBounds_toArray, List.set_cons_succ, List.set_cons_zero]
  refine Lim.stepR 4 (fun _ => trivial) rfl (by kernel_rfl) (fun _ _ _ _ h => h) hC4' rfl ?_; apply Exists.intro; refine ⟨?_, ?_⟩
  · rintro w ⟨r1, r2, r3, r4⟩; go_simp; try with_reducible rfl
  simp only [Act.put, List.setIfInBounds_toArray, List.set_cons_succ, List.set_cons_zero]
  refine Lim.stepR 5 (fun _ => trivial) rfl (by kernel_rfl) (fun _ _ _ _ h => h) hC4' rfl ?_; apply Exists.intro; refine ⟨?_, ?_⟩
  · rintro w ⟨r1, r2, r3, r4⟩; go_simp; try with_reducible rfl
  simp only [Act.put, List.setIfInBounds_toArray, List.set_cons_succ, List.set_cons_zero]
  refine Lim.stepD (by kernel_rfl) ?_
  clear hC hC3 hC4'
  obtain ⟨D, hD, hDF⟩ := HMP4.out
  have hD5 := hD.alloc (.map #[] 0)
  have HDF := Lib.hid hDF
  have HG5 : Hid (MapS (w4.alloc (.map #[] 0)) w4.heap.size 0 (fun _ _ => none) ∧ FlE (w4.alloc (.map #[] 0)) B bf bm m.n m.wd c oa oc (.slice ea m.n ec) (.slice sa m.n sc) m.os M Fr R ∧ Below w.heap.size w (w4.alloc (.map #[] 0)) ∧ w4.heap.size < (w4.alloc (.map #[] 0)).heap.size) := Lib.hid ⟨MapS.made w4, HFL4.out.on ((Below.refl _ _).alloc (Nat.le_refl _) _), HB4.out.trans (((Below.refl _ _).alloc (Nat.le_refl _) _).mono HB4.out.size), by simp⟩
  have HBW : Hid (w.heap.size ≤ bf ∧ w.heap.size ≤ bm ∧ w.heap.size ≤ ba ∧ w.heap.size ≤ w4.heap.size ∧ ba < w4.heap.size ∧ bf < w4.heap.size ∧ bm < w4.heap.size) := Lib.hid ⟨Nat.le_trans HB2.out.size HB3.out.2.1, Nat.le_trans HB2.out.size HB3.out.2.2, Nat.le_trans HB3.out.1.size HBA.out, HB4.out.size, hD.lt, HLT.out.1, HLT.out.2.1⟩
  go_wp2_with fail
  rw [run_makeMap]
  clear hD hDF HFL4 HB4 HMP4 HB3 HB2
  obtain ⟨bg, hbg⟩ : ∃ b, b = w4.heap.size := ⟨_, rfl⟩
  rw [← hbg] at HG5 HBW ⊢
  clear hbg
  generalize w4.alloc (.map #[] 0) = w5 at hD5 HG5 ⊢
  go_wp2_with (first
    | (at_range; refine wpList_range_own _ rfl _ 106 rfl 120 3 keySide Try.underlying106 _ ba 400 D rfl hD5 ?_; intro w6 hrg0 hg0 hs0)
    | go_in)
  go_frame
  have HG6 : Hid (MapS w6 bg 0 (fun _ _ => none) ∧ FlE w6 B bf bm m.n m.wd c oa oc (.slice ea m.n ec) (.slice sa m.n sc) m.os M Fr R ∧ Below w.heap.size w w6) := Lib.hid (by
    have hs := Sep.of_grown hg0
    have hb : Below w5.heap.size w5 w6 := hs.on (fun k _ e => by cases e)
    exact ⟨HG5.out.1.kept hg0 (by simp), HG5.out.2.1.on hb, HG5.out.2.2.1.trans (hb.mono HG5.out.2.2.1.size)⟩)
  obtain ⟨r, hr⟩ : ∃ b, b = w5.heap.size := ⟨_, rfl⟩
  have HRW : Hid (bg < r ∧ w.heap.size ≤ r) := Lib.hid ⟨by rw [hr]; exact HG5.out.2.2.2, by rw [hr]; exact HG5.out.2.2.1.size⟩
  rw [← hr] at hrg0 ⊢
  clear hg0 hs0 hr HG5 hD5
  go_loopw [9] (fun _ wr => ∃ (left : Lit → Bool) (cnt : Nat) (G : Nat → Nat → Option Int), wr.ranges Try.prog 120 (plainElem Try.prog 3) ba r 400 D left cnt ∧ cnt ≤ Maps.size D ∧ Hid (MapS wr bg (Maps.size D - cnt) G ∧ DoneS D left (fun a c => max 0 ((hsF m.n m.wd (fun k => es.getD k 0) (fun k => ss.getD k 0) a c).getD 0 - (R a c).getD 0)) G ∧ FlE wr B bf bm m.n m.wd c oa oc (.slice ea m.n ec) (.slice sa m.n sc) m.os M Fr R ∧ Below w.heap.size w wr)) (fun _ wr => wr.rangeLeft ba r)
  case atStart => exact ⟨_, _, _, hrg0, Nat.le_refl _, Lib.hid ⟨by rw [Nat.sub_self]; exact HG6.out.1, DoneS.start D _, HG6.out.2.1, HG6.out.2.2⟩⟩
  case round =>
    clear hrg0 HG6
    obtain ⟨left, cnt, G, hrg, hcs, HI⟩ := hrel
    go_wp2_with (first
      | (at_next; refine wpList_next_ranges _ rfl _ rfl 120 keySide (plainElem Try.prog 3) (fun x : Int × Int => .agg #[.int .i64 x.1, .int .i64 x.2]) (fun v : Int => .int .i64 v) (fun key kl h => by obtain ⟨x, e, -⟩ := keyOf_side_inv h; exact ⟨x, e⟩) (fun v y hv => by obtain ⟨c', rfl, -⟩ := plainElem_int_inv Try.underlying3 hv; exact ⟨c', rfl⟩) ba r 400 D left cnt rfl hrg ?_ ?_)
      | go_in)
    · intro hc0 hl0
      have HG9 : Hid (MapS wr bg 400 (fun a c => if (hsF m.n m.wd (fun k => es.getD k 0) (fun k => ss.getD k 0) a c).isSome = true then some (max 0 ((hsF m.n m.wd (fun k => es.getD k 0) (fun k => ss.getD k 0) a c).getD 0 - (R a c).getD 0)) else none)) := Lib.hid ((HI.out.1.more (by have := hrg.owns.size_le; omega)).congr fun a c' ha hc => by
        rw [HI.out.2.1 a c' ha hc, hl0, (HDF.out a c' ha hc).1]
        simp)
      obtain ⟨hbf4, hff4⟩ := HI.out.2.2.1.c4
      have HFE := Lib.hid HI.out.2.2
      clear hrg hl0 HI
      go_upto_region 12 with (fail)
      have HF10 : Hid (FlE (wr.setCell ⟨bf, 4, none⟩ (.map (some bg))) B bf bg m.n m.wd 400 oa oc (.slice ea m.n ec) (.slice sa m.n sc) m.os M Fr (fun a c => if (hsF m.n m.wd (fun k => es.getD k 0) (fun k => ss.getD k 0) a c).isSome = true then some (max 0 ((hsF m.n m.wd (fun k => es.getD k 0) (fun k => ss.getD k 0) a c).getD 0 - (R a c).getD 0)) else none) ∧ Below w.heap.size w (wr.setCell ⟨bf, 4, none⟩ (.map (some bg)))) := Lib.hid ⟨HFE.out.1.room (Nat.le_trans HV.out.1 HBW.out.2.2.2.1) (by have := HBW.out; omega) HG9.out, HFE.out.2.setCell (p := ⟨bf, 4, none⟩) HBW.out.1 _⟩
      clear hbf4 hff4 HFE HG9
      generalize wr.setCell ⟨bf, 4, none⟩ (.map (some bg)) = w10 at HF10 ⊢
      have HDN := Lib.hid (HFF.out.1.done (fun a b h => hsF_nb HMO.out h) HFF.out.2 HOW.out)
      have HWS := Lib.hid (WkS.start (m := m) HFF.out.1 (hsF_symm HMO.out.w0) (fun a b => hsF_range HE.out.1 HE.out.2 a b) (fun a b h => hsF_lt HMO.out.w0 h))
      obtain ⟨V, hVe⟩ : ∃ V, V = value m.n m.own g := ⟨_, rfl⟩
      rw [← hVe] at HWS HDN
      have HRE := Lib.hid (reaches_any HMO.out HF10.out.1)
      obtain ⟨F0, hF0⟩ : ∃ F : Nat → Nat → Option Int, F = fun a c => if (hsF m.n m.wd (fun k => es.getD k 0) (fun k => ss.getD k 0) a c).isSome = true then some (max 0 ((hsF m.n m.wd (fun k => es.getD k 0) (fun k => ss.getD k 0) a c).getD 0 - (R a c).getD 0)) else none := ⟨_, rfl⟩
      rw [← hF0] at HWS HRE
      clear hF0
      go_wp2_with fail
      refine HRE.out.mono ?_
      intro e w11 hans
      obtain ⟨hg5, M5, Fr5, rk5, t5, y, rfl, hfl, hfd⟩ := hans.found
      obtain ⟨S, hS⟩ : ∃ S, S = w11.heap.size := ⟨_, rfl⟩
      have H5 : Hid (Below w.heap.size w w11 ∧ FlE w11 B bf bg m.n m.wd 400 oa oc (.slice ea m.n ec) (.slice sa m.n sc) m.os M5 Fr5 F0 ∧ WkS m (hsF m.n m.wd (fun k => es.getD k 0) (fun k => ss.getD k 0)) V F0 [] ∧ Found m F0 M5 Fr5 rk5 t5 y ∧ Mem w11 S [] [rwW (.slice none 0 0) 0 []] [] w11) :=
        Lib.hid ⟨HF10.out.2.trans ((Sep.of_grown hg5).below HF10.out.2.size (fun x hx => by cases hx; exact HBW.out.1)), hfl, HWS.out, hfd, by rw [hS]; exact (Mem.nil (Below.refl _ w11)).nilQ (83) 2⟩
      have HSG : Hid (bf < S ∧ bg < S ∧ w.heap.size ≤ S) := Lib.hid (by rw [hS]; exact ⟨hfl.bf_lt, hfl.rm.lt, H5.out.1.size⟩)
      clear hans hg5 hfl hfd HRE HF10 hVe HFF hS
      go_wp2_with fail
      refine wp_loop_ghost_k (fun mi a' W => ∃ (M : Nat → Bool) (Fr : Nat → Int) (F : Nat → Nat → Option Int) (rk : Nat → Nat) (t : Nat) (y : Int) (v : Value) (ps : List (Value × List Nat × Int)), FrW bf v y a' ∧ a'.defers = [] ∧ Hid (Below w.heap.size w W ∧ FlE W B bf bg m.n m.wd 400 oa oc (.slice ea m.n ec) (.slice sa m.n sc) m.os M Fr F ∧ WkS m (hsF m.n m.wd (fun k => es.getD k 0) (fun k => ss.getD k 0)) V F (ps.map Prod.snd) ∧ Found m F M Fr rk t y ∧ Mem W S (rwL ps) [rwW v ps.length ps] [] W ∧ mi = (V - wtot (ps.map Prod.snd)).toNat)) _
          ⟨_, _, _, _, _, _, _, [], rfl, rfl, Lib.hid ⟨H5.out.1, H5.out.2.1, H5.out.2.2.1, H5.out.2.2.2.1, H5.out.2.2.2.2.rebase (fun _ _ _ => rfl) (Nat.le_refl _), rfl⟩⟩ ?_
      clear H5 HWS
      rintro mi a' W ⟨M2, Fr2, F, rk2, t2, y, v, ps, hfr, hdf, hI⟩ J2 K2 hJ2 hK2
      unfold FrW at hfr
      rw [hdf] at hfr
      generalize Lim.sl a' = x at hfr
      subst hfr
      clear hdf
      by_cases hy : y = -1
      · have g1 : (y != -1) = false := by simp [hy]
        have HY := Lib.hid hy
        clear hy
        go_wp2_with fail
        go_ret2
        rcases hI.out.2.2.2.1 with ⟨-, hD⟩ | ⟨last, q, h, -⟩
        · exact ⟨hI.out.1, v, ps, rfl, wkR_of hI.out.2.2.2.2.1, hI.out.2.2.1.done (fun a b h => hsF_nb HMO.out h) hD HOW.out HDN.out.1 HDN.out.2⟩
        · have := HY.out
          omega
      · have g1 : (y != -1) = true := by simpa using hy
        obtain ⟨last, q5, hyl, hMl, hol, ht, hDB⟩ : ∃ (last : Nat) (q : List Nat), y = last ∧ M2 last = true ∧ m.own last = 1 ∧ t2 ≤ 101 ∧ DBase m.n (edR m F) (fun k => m.own k = 0) M2 Fr2 rk2 t2 q := by
          rcases hI.out.2.2.2.1 with ⟨h1, -⟩ | h
          · exact absurd h1 hy
          · exact h
        subst hyl
        have hsm : ∀ {a b : Nat}, (F a b).getD 0 ≠ 0 → (F a b).isSome = true := fun {a b} h => by
          cases hr : F a b with
          | none => rw [hr] at h; exact absurd rfl h
          | some v => rfl
        have hlt : ∀ {a b : Nat}, (F a b).isSome = true → a < m.n ∧ b < m.n := fun {a b} h => hsF_lt HMO.out.w0 (by rw [← hI.out.2.2.1.so a b]; exact h)
        have hR : ∀ a b, edR m F a b → 1 ≤ (F a b).getD 0 := fun a b h => by
          have h2 := (hI.out.2.2.1.rg a b).1
          have := h.2
          omega
        have HR := Lib.hid (And.intro @hlt @hsm)
        have HW := Lib.hid (way_any hn100 hI.out.2.1 hDB hMl ht hR)
        have HDB := Lib.hid (And.intro ht (And.intro hDB hol))
        clear hlt hsm hR hDB hMl hol ht hy
        go_wp2_with fail
        refine HW.out.mono ?_
        rintro e w2 ⟨hb2, v12, L, a0, k, rfl, hrow, hway, hSt⟩
        obtain ⟨ℓ, hℓ⟩ : ∃ ℓ, L.length = ℓ + 1 := by
          obtain ⟨s, hs⟩ := hway.bk.head
          exact ⟨s.length, by rw [hs]; rfl⟩
        rw [hℓ] at hrow
        have hrow2 := hrow
        rcases hrow.2 with ⟨-, h0⟩ | ⟨gl, cap, cur, rfl, hbg, -, hlc, -⟩
        · omega
        have hlen : ℓ + 1 ≤ 101 := by have := hway.len; have := HDB.out.1; omega
        have hrp := run_pop gl 0 ℓ cap hlc (by omega) w2
        obtain ⟨pa, pk, hpv⟩ : ∃ a k, popV gl 0 ℓ cap = .slice a ℓ k := by
          unfold popV
          split
          · exact ⟨_, _, by rw [show ℓ = 0 by omega]⟩
          · exact ⟨_, _, rfl⟩
        rw [hpv] at hrp
        have HJ := Lib.hid (And.intro hJ2 hK2)
        clear hJ2 hK2
        have HWY := Lib.hid (And.intro hway (And.intro hSt (And.intro hℓ hlen)))
        have H2 : Hid (Below w.heap.size w w2 ∧ FlE w2 B bf bg m.n m.wd 400 oa oc (.slice ea m.n ec) (.slice sa m.n sc) m.os M2 Fr2 (lessP F k L 0) ∧ w2.ownsRow W.heap.size 3 1 (.slice (some ⟨gl, 0, none⟩) (ℓ + 1) cap) (ℓ + 1) (ints (L.map Int.ofNat)) ∧ Mem w2 S (rwL ps) [rwW v ps.length ps] [] w2) := Lib.hid ⟨hI.out.1.trans (hb2.mono hI.out.1.size), by rw [lessP_zero]; exact hI.out.2.1.on hb2, hrow2, hI.out.2.2.2.2.1.rebase (fun k _ h2 => hb2.block k h2) hb2.size⟩
        have HWS2 : Hid (S ≤ W.heap.size) := Lib.hid hI.out.2.2.2.2.1.o
        clear HW hb2 hrow hrow2 hway hSt hℓ hlen hpv hlc hbg
        go_wp2_with fail
        go_loopw [62] (fun v' wr => ∃ i : Nat, i ≤ ℓ ∧ v' = .int .i64 i ∧ Hid (Below w.heap.size w wr ∧ FlE wr B bf bg m.n m.wd 400 oa oc (.slice ea m.n ec) (.slice sa m.n sc) m.os M2 Fr2 (lessP F k L i) ∧ wr.ownsRow W.heap.size 3 1 (.slice (some ⟨gl, 0, none⟩) (ℓ + 1) cap) (ℓ + 1) (ints (L.map Int.ofNat)) ∧ Mem wr S (rwL ps) [rwW v ps.length ps] [] wr)) (fun v' _ => ℓ - (intOf v').toNat)
        case atStart => exact ⟨0, Nat.zero_le _, rfl, H2⟩
        case round =>
          clear H2
          obtain ⟨i, hi3, rfl, hP⟩ := hrel
          by_cases hil : i < ℓ
          · have hil64 : (i : Int) < ℓ := by omega
            have hlL : L.length = ℓ + 1 := HWY.out.2.2.1
            have hl101 := HWY.out.2.2.2
            obtain ⟨a, ha⟩ : ∃ a, L[i]? = some a := ⟨_, List.getElem?_eq_getElem (by omega)⟩
            obtain ⟨b, hb⟩ : ∃ b, L[i + 1]? = some b := ⟨_, List.getElem?_eq_getElem (by omega)⟩
            have hsp : L = L.take i ++ a :: b :: L.drop (i + 2) := by
              have e1 : L.drop (i + 1) = b :: L.drop (i + 2) := by
                obtain ⟨h1, h2⟩ := List.getElem?_eq_some_iff.1 hb
                rw [← h2]; exact List.drop_eq_getElem_cons h1
              have e2 : L.drop i = a :: L.drop (i + 1) := by
                obtain ⟨h1, h2⟩ := List.getElem?_eq_some_iff.1 ha
                rw [← h2]; exact List.drop_eq_getElem_cons h1
              rw [← e1, ← e2, List.take_append_drop]
            have hed := HWY.out.1.bk.adj _ _ _ _ hsp
            have s1 := HR.out.2 hed.2
            have l1 := HR.out.1 s1
            have hk := HWY.out.1.c0
            have p0 := lessP_range (i := i) (L := L) hk.1 hI.out.2.2.1.rg (fun x y => dirc_room HWY.out.1.bk.nodup (fun x y => (hI.out.2.2.1.rg x y).1) HWY.out.1.le x y) a b
            obtain ⟨r0, hr0⟩ : ∃ r0, r0 = (lessP F k L i a b).getD 0 := ⟨_, rfl⟩
            rw [← hr0] at p0
            have hF9 := hP.out.2.1.on (Below.refl _ wr).drew
            have hlk := hF9.rm.lookup (x := a) (y := b) (by omega) (by omega)
            obtain ⟨st, hme, hst⟩ := hF9.rm.entry (by unfold maxLen; omega) (x := a) (y := b) (by omega) (by omega) (by rw [lessP_some]; exact s1)
            obtain ⟨w3, hes, hm3, hg3⟩ := hst (r0 - k) (WalkArith.wf_i64 ⟨by omega, by omega⟩)
            rw [← hr0] at hlk hme
            have hF3 := hF9.put hg3 hm3
            have hrs := lessP_step (F := F) (c := k) ha hb s1
            rw [← hr0] at hrs
            rw [hrs] at hF3
            have hown9 := hP.out.2.2.1
            have ha' : (ints (L.map Int.ofNat))[i]? = some (.int .i64 a) := by unfold ints; rw [List.getElem?_map, List.getElem?_map, ha]; rfl
            have hb' : (ints (L.map Int.ofNat))[i + 1]? = some (.int .i64 b) := by unfold ints; rw [List.getElem?_map, List.getElem?_map, hb]; rfl
            have ca := hown9.cells (g := gl) rfl i _ ha'
            have cb := hown9.cells (g := gl) rfl (i + 1) _ hb'
            rw [Addr.add_lit, Nat.zero_add] at ca cb
            have hs3 := Sep.of_grown hg3
            have hC : (fun W => W.cell? ⟨bf, 4, none⟩ = some (.map (some bg)) ∧ W.cell? ⟨gl, i, none⟩ = some (.int .i64 a) ∧ W.cell? ⟨gl, i + 1, none⟩ = some (.int .i64 b) ∧ (Instr.lookup 106 (.map (some bg)) (.agg #[.int .i64 a, .int .i64 b]) false).run Try.prog W = .ok (.int .i64 r0) W ∧ (Instr.mapEntry 106 (.map (some bg)) (.agg #[.int .i64 a, .int .i64 b])).run Try.prog W = .ok (.tuple #[.int .i64 r0, .int .i64 st]) W) wr.drew := ⟨hF9.c4.1, ca, cb, hlk, hme⟩
            have hwr1 : IntKind.i64.wrap ((i : Int) + 1) = (i : Int) + 1 := IntWalk.i64_in _ (by omega)
            have hwr2 : IntKind.i64.wrap (r0 - k) = r0 - k := IntWalk.i64_in _ (by omega)
            have hi1 : (i : Int) + 1 < ℓ + 1 := by omega
            have hi2 : (i : Int) < ℓ + 1 := by omega
            have hi4 : (0 : Int) ≤ (i : Int) + 1 := by omega
            have hfin : Hid (Below w.heap.size w w3 ∧ FlE w3 B bf bg m.n m.wd 400 oa oc (.slice ea m.n ec) (.slice sa m.n sc) m.os M2 Fr2 (lessP F k L (i + 1)) ∧ w3.ownsRow W.heap.size 3 1 (.slice (some ⟨gl, 0, none⟩) (ℓ + 1) cap) (ℓ + 1) (ints (L.map Int.ofNat)) ∧ Mem w3 S (rwL ps) [rwW v ps.length ps] [] w3) := by
              have q1 := HSG.out
              have q2 := HWS2.out
              have q3 := HBW.out
              have e1 : Below w.heap.size wr.drew w3 := hs3.below hP.out.1.size (fun x hx => by cases hx; omega)
              have o3 := owns_sep (W := wr.drew) hown9 hs3 (fun x hx => by cases hx; omega)
              exact Lib.hid ⟨hP.out.1.drew.trans e1, hF3, o3, hP.out.2.2.2.drew.rebase (fun j h1 h2 => hg3.block j h2 (fun e => by cases e; omega)) hg3.size⟩
            clear hF9 hF3 hst hm3 hg3 hrs hown9 hs3 ca cb hP ha hb ha' hb' hsp hed s1 l1 hk hlL hl101 p0 hrp
            replace hr0 := Lib.hid hr0
            go_wp2_with fail
            refine Lim.regC' (fun W => W.cell? ⟨bf, 4, none⟩ = some (.map (some bg)) ∧ W.cell? ⟨gl, i, none⟩ = some (.int .i64 a) ∧ W.cell? ⟨gl, i + 1, none⟩ = some (.int .i64 b) ∧ (Instr.lookup 106 (.map (some bg)) (.agg #[.int .i64 a, .int .i64 b]) false).run Try.prog W = .ok (.int .i64 r0) W ∧ (Instr.mapEntry 106 (.map (some bg)) (.agg #[.int .i64 a, .int .i64 b])).run Try.prog W = .ok (.tuple #[.int .i64 r0, .int .i64 st]) W) [19] #[false, false, false, false, false, false, false, false, false, false, false, false, false, false, false, false, false, false, false, false] (by kernel_rfl) rfl ?_
            refine Lim.stepR 0 (fun _ => trivial) rfl (by kernel_rfl) (fun _ _ _ _ h => h) hC rfl ?_; apply Exists.intro; refine ⟨?_, ?_⟩
            · rintro w ⟨r1, r2, r3, r4, r5⟩; go_simp; try with_reducible rfl
            simp only [Act.put, List.setIfInBounds_toArray, List.set_cons_succ, List.set_cons_zero]
            refine Lim.stepR 1 (fun _ => trivial) rfl (by kernel_rfl) (fun _ _ _ _ h => h) hC rfl ?_; apply Exists.intro; refine ⟨?_, ?_⟩
            · rintro w ⟨r1, r2, r3, r4, r5⟩; go_simp; try with_reducible rfl
            simp only [Act.put, List.setIfInBounds_toArray, List.set_cons_succ, List.set_cons_zero]
            refine Lim.stepR 2 (fun _ => trivial) rfl (by kernel_rfl) (fun _ _ _ _ h => h) hC rfl ?_; apply Exists.intro; refine ⟨?_, ?_⟩
            · rintro w ⟨r1, r2, r3, r4, r5⟩; go_simp; try with_reducible rfl
            simp only [Act.put, List.setIfInBounds_toArray, List.set_cons_succ, List.set_cons_zero]
            refine Lim.stepR 3 (fun _ => trivial) rfl (by kernel_rfl) (fun _ _ _ _ h => h) hC rfl ?_; apply Exists.intro; refine ⟨?_, ?_⟩
            · rintro w ⟨r1, r2, r3, r4, r5⟩; go_simp; try with_reducible rfl
            simp only [Act.put, List.setIfInBounds_toArray, List.set_cons_succ, List.set_cons_zero]
            refine Lim.stepR 4 (fun _ => trivial) rfl (by kernel_rfl) (fun _ _ _ _ h => h) hC rfl ?_; apply Exists.intro; refine ⟨?_, ?_⟩
            · rintro w ⟨r1, r2, r3, r4, r5⟩; go_simp; try with_reducible rfl
            simp only [Act.put, List.setIfInBounds_toArray, List.set_cons_succ, List.set_cons_zero]
            refine Lim.stepR 5 (fun _ => trivial) rfl (by kernel_rfl) (fun _ _ _ _ h => h) hC rfl ?_; apply Exists.intro; refine ⟨?_, ?_⟩
            · rintro w ⟨r1, r2, r3, r4, r5⟩; go_simp; try with_reducible rfl
            simp only [Act.put, List.setIfInBounds_toArray, List.set_cons_succ, List.set_cons_zero]
            refine Lim.stepR 6 (fun _ => trivial) rfl (by kernel_rfl) (fun _ _ _ _ h => h) hC rfl ?_; apply Exists.intro; refine ⟨?_, ?_⟩
            · rintro w ⟨r1, r2, r3, r4, r5⟩; go_simp; try with_reducible rfl
            simp only [Act.put, List.setIfInBounds_toArray, List.set_cons_succ, List.set_cons_zero]
            refine Lim.stepR 7 (fun _ => trivial) rfl (by kernel_rfl) (fun _ _ _ _ h => h) hC rfl ?_; apply Exists.intro; refine ⟨?_, ?_⟩
            · rintro w ⟨r1, r2, r3, r4, r5⟩; go_simp; try with_reducible rfl
            simp only [Act.put, List.setIfInBounds_toArray, List.set_cons_succ, List.set_cons_zero]
            refine Lim.stepR 8 (fun _ => trivial) rfl (by kernel_rfl) (fun _ _ _ _ h => h) hC rfl ?_; apply Exists.intro; refine ⟨?_, ?_⟩
            · rintro w ⟨r1, r2, r3, r4, r5⟩; go_simp; try with_reducible rfl
            simp only [Act.put, List.setIfInBounds_toArray, List.set_cons_succ, List.set_cons_zero]
            refine Lim.stepR 9 (fun _ => trivial) rfl (by kernel_rfl) (fun _ _ _ _ h => h) hC rfl ?_; apply Exists.intro; refine ⟨?_, ?_⟩
            · rintro w ⟨r1, r2, r3, r4, r5⟩; go_simp; try with_reducible rfl
            simp only [Act.put, List.setIfInBounds_toArray, List.set_cons_succ, List.set_cons_zero]
            refine Lim.stepR 10 (fun _ => trivial) rfl (by kernel_rfl) (fun _ _ _ _ h => h) hC rfl ?_; apply Exists.intro; refine ⟨?_, ?_⟩
            · rintro w ⟨r1, r2, r3, r4, r5⟩; go_simp; try with_reducible rfl
            simp only [Act.put, List.setIfInBounds_toArray, List.set_cons_succ, List.set_cons_zero]
            refine Lim.stepR 11 (fun _ => trivial) rfl (by kernel_rfl) (fun _ _ _ _ h => h) hC rfl ?_; apply Exists.intro; refine ⟨?_, ?_⟩
            · rintro w ⟨r1, r2, r3, r4, r5⟩; go_simp; try with_reducible rfl
            simp only [Act.put, List.setIfInBounds_toArray, List.set_cons_succ, List.set_cons_zero]
            refine Lim.stepR 12 (fun _ => trivial) rfl (by kernel_rfl) (fun _ _ _ _ h => h) hC rfl ?_; apply Exists.intro; refine ⟨?_, ?_⟩
            · rintro w ⟨r1, r2, r3, r4, r5⟩; go_simp; try with_reducible rfl
            simp only [Act.put, List.setIfInBounds_toArray, List.set_cons_succ, List.set_cons_zero]
            refine Lim.stepR 13 (fun _ => trivial) rfl (by kernel_rfl) (fun _ _ _ _ h => h) hC rfl ?_; apply Exists.intro; refine ⟨?_, ?_⟩
            · rintro w ⟨r1, r2, r3, r4, r5⟩; go_simp; try with_reducible rfl
            simp only [Act.put, List.setIfInBounds_toArray, List.set_cons_succ, List.set_cons_zero]
            refine Lim.stepR 14 (fun _ => trivial) rfl (by kernel_rfl) (fun _ _ _ _ h => h) hC rfl ?_; apply Exists.intro; refine ⟨?_, ?_⟩
            · rintro w ⟨r1, r2, r3, r4, r5⟩; go_simp; try with_reducible rfl
            simp only [Act.put, List.setIfInBounds_toArray, List.set_cons_succ, List.set_cons_zero]
            refine Lim.stepR 15 (fun _ => trivial) rfl (by kernel_rfl) (fun _ _ _ _ h => h) hC rfl ?_; apply Exists.intro; refine ⟨?_, ?_⟩
            · rintro w ⟨r1, r2, r3, r4, r5⟩; go_simp; try with_reducible rfl
            simp only [Act.put, List.setIfInBounds_toArray, List.set_cons_succ, List.set_cons_zero]
            refine Lim.stepR 16 (fun _ => trivial) rfl (by kernel_rfl) (fun _ _ _ _ h => h) hC rfl ?_; apply Exists.intro; refine ⟨?_, ?_⟩
            · rintro w ⟨r1, r2, r3, r4, r5⟩; go_simp; try with_reducible rfl
            simp only [Act.put, List.setIfInBounds_toArray, List.set_cons_succ, List.set_cons_zero]
            refine Lim.stepR 17 (fun _ => trivial) rfl (by kernel_rfl) (fun _ _ _ _ h => h) hC rfl ?_; apply Exists.intro; refine ⟨?_, ?_⟩
            · rintro w ⟨r1, r2, r3, r4, r5⟩; go_simp; try with_reducible rfl
            simp only [Act.put, List.setIfInBounds_toArray, List.set_cons_succ, List.set_cons_zero]
            refine Lim.stepR 18 (fun _ => trivial) rfl (by kernel_rfl) (fun _ _ _ _ h => h) hC rfl ?_; apply Exists.intro; refine ⟨?_, ?_⟩
            · rintro w ⟨r1, r2, r3, r4, r5⟩; go_simp; try with_reducible rfl
            simp only [Act.put, List.setIfInBounds_toArray, List.set_cons_succ, List.set_cons_zero]
            refine Lim.stepX 19 (fun _ => trivial) rfl (by kernel_rfl) rfl rfl (fun K hK => ?_)   -- E entryStore
            go_simp
            refine hK _ _ ?_
            simp only [Act.put, List.setIfInBounds_toArray, List.set_cons_succ, List.set_cons_zero]
            refine Lim.segC (fun _ => True) [] ?_
            refine Lim.stepD (by kernel_rfl) ?_
            clear hC hlk hme hes
            go_wp2_with fail
            go_roundw
            case rel => exact ⟨i + 1, by omega, by go_num, hfin⟩
            case measure => simp [intOf]; omega
          · have hil' : ¬ (i : Int) < ℓ := by omega
            obtain rfl : i = ℓ := by omega
            go_upto_region 21 with (fail)
            have hL0 : L ≠ [] := fun e => by have := HWY.out.2.2.1; rw [e] at this; simp at this
            have HLEN : Hid (ps.length ≤ 10000000) := Lib.hid (by have := hI.out.2.2.1.length_le HDN.out.1 HDN.out.2 hn100 (fun a b => hsF_range HE.out.1 HE.out.2 a b); simpa using this)
            have HWW : Hid (WkS m (hsF m.n m.wd (fun k => es.getD k 0) (fun k => ss.getD k 0)) V (lessP F k L i) (ps.map Prod.snd ++ [(L, k)])) := Lib.hid (by
              have h := hI.out.2.2.1.less HWY.out.1 (fun k hk => HDB.out.2.1.ins k hk) hn100 HWY.out.2.1 HDB.out.2.2 (HWY.out.1.good HWY.out.2.1 HDB.out.2.2)
              rw [← lessP_end hL0, HWY.out.2.2.1, Nat.add_sub_cancel] at h
              exact h)
            have HMEAS : Hid ((V - wtot (ps.map Prod.snd ++ [(L, k)])).toNat < mi) := Lib.hid (by
              have h1 := HWW.out.le HDN.out.1 HDN.out.2
              have h2 : wtot (ps.map Prod.snd ++ [(L, k)]) = wtot (ps.map Prod.snd) + k := by unfold wtot; rw [List.map_append, List.sum_append]; simp
              have h3 := HWY.out.1.c0
              have h4 := hI.out.2.2.2.2.2
              rw [h2] at h1 ⊢
              omega)
            have hrw : (rwI (.slice (some ⟨gl, 0, none⟩) (i + 1) cap) L.length (L.map Int.ofNat)).Owned wr S := by
              show wr.ownsRow S 3 1 _ L.length _
              rw [HWY.out.2.2.1]
              exact hP.out.2.2.1.mono HWS2.out
            have HMA : Hid (Mem wr S (rwL ps ++ [rwI (.slice (some ⟨gl, 0, none⟩) (i + 1) cap) L.length (L.map Int.ofNat)]) [rwW v ps.length ps] [] (wr.alloc (.cells #[.slice (some ⟨gl, 0, none⟩) (i + 1) cap, .int .i64 k] 83))) := Lib.hid ((hP.out.2.2.2.insert hrw (by simp [rwW, rwI])).grow ((Below.refl _ wr).alloc (Nat.le_refl _) _))
            have HOWN : Hid ((wr.alloc (.cells #[.slice (some ⟨gl, 0, none⟩) (i + 1) cap, .int .i64 k] 83)).ownsRow S 83 2 v ps.length (wkC ps)) := Lib.hid (HMA.out.q (rwW v ps.length ps) (List.mem_singleton.2 rfl))
            have HFA : Hid (FlE (wr.alloc (.cells #[.slice (some ⟨gl, 0, none⟩) (i + 1) cap, .int .i64 k] 83)) B bf bg m.n m.wd 400 oa oc (.slice ea m.n ec) (.slice sa m.n sc) m.os M2 Fr2 (lessP F k L i) ∧ Below w.heap.size w (wr.alloc (.cells #[.slice (some ⟨gl, 0, none⟩) (i + 1) cap, .int .i64 k] 83))) := Lib.hid ⟨hP.out.2.1.on ((Below.refl _ wr).alloc (Nat.le_refl _) _), hP.out.1.trans (((Below.refl _ wr).alloc (Nat.le_refl _) _).mono hP.out.1.size)⟩
            obtain ⟨iw, hiw, hzw0, hzw1, hzw2⟩ := info_parts Try.infoWalk
            have HIW := Lib.hid (And.intro hiw (And.intro hzw0 (And.intro hzw1 hzw2)))
            clear hiw hzw0 hzw1 hzw2 hrw hP hrp hL0
            go_wp2_with (first
              | (refine wpList_build1W rfl _ rfl rfl ?_)
              | (at_builtin; refine wpList_append_own_at _ rfl _ _ 77 rfl S 83 iw (.agg #[.slice none 0 0, .int .i64 0]) 2 32 Try.underlying77 HIW.out.1 HIW.out.2.1 HIW.out.2.2.1 HIW.out.2.2.2 rfl (by decide) _ _ _ rfl HOWN.out ⟨wr.heap.size, 0, none⟩ 1 1 [.slice (some ⟨gl, 0, none⟩) (i + 1) cap, .int .i64 k] rfl rfl (cell_two_new _ _ _ _) (by simp [Value.oneCell']) (by have := HLEN.out; unfold maxLen; omega) (by have := HLEN.out; omega) HMA.out.o ?_; intro v' w8 hown8 hgrow _ hat; have HAT := Lib.hid (And.intro hown8 (And.intro hgrow hat)); clear hown8 hgrow hat))
            have hnot : ∀ x, v.ownBlock = some x → S ≤ x := fun x h => (HOWN.out.lt x h).1
            have hs8 := Sep.of_grown HAT.out.2.1
            have hq1 := HSG.out
            have hF8 := HFA.out.1.sep hs8 (fun e => by have := hnot _ e; omega) (fun e => by have := hnot _ e; omega) (fun x e => by have := hnot _ e; have := HV.out.1; omega)
            have hB8 := HFA.out.2.trans (hs8.below HFA.out.2.size (fun x e => by have := hnot _ e; omega))
            have HM8 : Hid (Mem wr S (rwL (ps ++ [(.slice (some ⟨gl, 0, none⟩) (i + 1) cap, L, k)])) [rwW v' (ps.length + 1) (ps ++ [(.slice (some ⟨gl, 0, none⟩) (i + 1) cap, L, k)])] [] w8) := Lib.hid (by
              rw [rwL_snoc]
              exact Mem.putQ (Q1 := []) (Q2 := []) (r := rwW v ps.length ps) (r' := rwW v' (ps.length + 1) (ps ++ [(.slice (some ⟨gl, 0, none⟩) (i + 1) cap, L, k)])) HMA.out HAT.out.2.1 (by
                show w8.ownsRow S 83 2 v' (ps.length + 1) (wkC (ps ++ [(.slice (some ⟨gl, 0, none⟩) (i + 1) cap, L, k)]))
                rw [wkC_snoc]; exact HAT.out.1) (HAT.out.2.2.imp id fun h => ⟨_, h, Nat.le_refl _⟩))
            refine (reaches_any HMO.out hF8).mono ?_
            intro e w9 hans
            obtain ⟨hg9, M5, Fr5, rk5, t5, y5, rfl, hfl, hfd⟩ := hans.found
            have H9 : Hid (Below w.heap.size w w9 ∧ FlE w9 B bf bg m.n m.wd 400 oa oc (.slice ea m.n ec) (.slice sa m.n sc) m.os M5 Fr5 (lessP F k L i) ∧ Found m (lessP F k L i) M5 Fr5 rk5 t5 y5 ∧ Mem w9 S (rwL (ps ++ [(.slice (some ⟨gl, 0, none⟩) (i + 1) cap, L, k)])) [rwW v' (ps.length + 1) (ps ++ [(.slice (some ⟨gl, 0, none⟩) (i + 1) cap, L, k)])] [] w9) :=
              Lib.hid ⟨hB8.trans ((Sep.of_grown hg9).below hB8.size (fun x hx => by cases hx; exact HBW.out.1)), hfl, hfd, HM8.out.rebase (fun j h1 h2 => hg9.block j h2 (fun e => by cases e; omega)) hg9.size⟩
            clear hans hg9 hfl hfd hF8 hB8 hs8 hnot hq1 HM8 HAT HMA HOWN HFA
            go_wp2_with fail
            refine HJ.out.2 _ _ ?_
            refine .intro _ HMEAS.out (HJ.out.1 _ _ _ ⟨M5, Fr5, lessP F k L i, rk5, t5, y5, v', ps ++ [(.slice (some ⟨gl, 0, none⟩) (i + 1) cap, L, k)], by unfold FrW; rfl, rfl, Lib.hid ⟨H9.out.1, H9.out.2.1, by rw [List.map_append]; exact HWW.out, H9.out.2.2.1, by rw [List.length_append]; exact H9.out.2.2.2, by rw [List.map_append]; rfl⟩⟩)
    · intro x y cv kl y1 y2 w7 cnt1 hkey hlx hv hat hrg1 hlt hg1 hs1 hen
      obtain ⟨⟨x', y'⟩, exy, wx, wy, rfl⟩ := keyOf_side_inv hkey
      simp only [Value.agg.injEq, Array.mk.injEq, List.cons.injEq, Value.int.injEq, true_and, and_true] at exy
      obtain ⟨rfl, rfl⟩ := exy
      obtain ⟨cv', ec, hy, hwc⟩ := plainElem_int_inv Try.underlying3 hv
      cases ec
      have hy1 : y1 = .lit (.int .i64 cv) := congrArg Prod.fst hy
      subst hy1
      have hhas := ranges_has hrg hlx
      have hs7 := Sep.of_grown hg1
      have hr1 := HRW.out
      have hr2 := HBW.out
      have hcv : ∀ a c : Nat, a < 1000 → c < 1000 → x = a → y = c → cv = (hsF m.n m.wd (fun k => es.getD k 0) (fun k => ss.getD k 0) a c).getD 0 := fun a c ha hc hx hy => by
        subst hx hy
        have h1 := (HDF.out a c ha hc).2
        rw [← sideI_nat, hat] at h1
        simpa using h1
      have hf7 := HI.out.2.2.1.sep hs7 (fun e => by cases e; omega) (fun e => by cases e; omega) (fun k e => by cases e; have := HV.out.1; omega)
      have hm7 := HI.out.1.kept hg1 (fun e => by have := Option.some.inj e; omega)
      have hb7 : Below w.heap.size w w7 := HI.out.2.2.2.trans (hs7.below HI.out.2.2.2.size (fun k e => by cases e; exact hr1.2))
      have hb8 : Below w7.heap.size w7 (w7.alloc (.cells #[.int .i64 x, .int .i64 y] 120)).drew := ((Below.refl _ _).alloc (Nat.le_refl _) _).drew
      have HI8 : Hid (MapS (w7.alloc (.cells #[.int .i64 x, .int .i64 y] 120)).drew bg (Maps.size D - cnt) G ∧ FlE (w7.alloc (.cells #[.int .i64 x, .int .i64 y] 120)).drew B bf bm m.n m.wd c oa oc (.slice ea m.n ec) (.slice sa m.n sc) m.os M Fr R ∧ Below w.heap.size w (w7.alloc (.cells #[.int .i64 x, .int .i64 y] 120)).drew ∧ (w7.alloc (.cells #[.int .i64 x, .int .i64 y] 120)).drew.ranges Try.prog 120 (plainElem Try.prog 3) ba r 400 D (fun z => left z && !z.sameKey (sideI x y)) cnt1) := Lib.hid ⟨hm7.sep (T := fun _ => False) (Sep.of_below hb8) id, hf7.on hb8, hb7.trans (hb8.mono hb7.size), hrg1.kept (World.grownBy.but ⟨hb8.os, hb8.tape, hb8.output, hb8.size, fun k hk _ => hb8.block k hk⟩ none) (by simp) (by simp)⟩
      have hk0 : (w7.alloc (.cells #[.int .i64 x, .int .i64 y] 120)).drew.cell? ⟨w7.heap.size, 0, none⟩ = some (.int .i64 x) := by simp [go_sem]
      have hk1 : (w7.alloc (.cells #[.int .i64 x, .int .i64 y] 120)).drew.cell? ⟨w7.heap.size, 1, none⟩ = some (.int .i64 y) := by simp [go_sem]
      have HST := Lib.hid (And.intro wx (And.intro wy (And.intro hhas (And.intro hcv hlt))))
      have HRG := Lib.hid hrg
      have HDS : Hid (Maps.size D ≤ 400) := Lib.hid hrg.owns.size_le
      clear hkey hlx hv hat hrg1 hg1 hs1 hwc hhas hs7 hr1 hr2 hcv hf7 hm7 hb7 hb8 hy hlt hrg wx wy
      go_upto_region 9 with (fail)
      generalize w7.alloc (.cells #[.int .i64 x, .int .i64 y] 120) = w8 at HI8 hk0 hk1 ⊢
      obtain ⟨q8, hq8⟩ : ∃ q, q = w7.heap.size := ⟨_, rfl⟩
      rw [← hq8] at hk0 hk1 ⊢
      obtain ⟨rv, hlk, hrv⟩ := HI8.out.2.1.rm.lookupI HST.out.1 HST.out.2.1
      have hC9 : (fun W => W.cell? ⟨q8, 0, none⟩ = some (.int .i64 x) ∧ W.cell? ⟨q8, 1, none⟩ = some (.int .i64 y) ∧ W.cell? ⟨bf, 4, none⟩ = some (.map (some bm)) ∧ (Instr.lookup 106 (.map (some bm)) (.agg #[.int .i64 x, .int .i64 y]) false).run Try.prog W = .ok (.int .i64 rv) W) w8.drew := ⟨hk0, hk1, HI8.out.2.1.c4.1, hlk⟩
      have HRV := Lib.hid hrv
      clear hq8 hk0 hk1 hlk hrv
      refine Lim.regC' (fun W => W.cell? ⟨q8, 0, none⟩ = some (.int .i64 x) ∧ W.cell? ⟨q8, 1, none⟩ = some (.int .i64 y) ∧ W.cell? ⟨bf, 4, none⟩ = some (.map (some bm)) ∧ (Instr.lookup 106 (.map (some bm)) (.agg #[.int .i64 x, .int .i64 y]) false).run Try.prog W = .ok (.int .i64 rv) W) [11] #[false, false, false, false, false, false, false, false, false, false, false, false] (by kernel_rfl) rfl ?_
      refine Lim.stepR 0 (fun _ => trivial) rfl (by kernel_rfl) (fun _ _ _ _ h => h) hC9 rfl ?_; apply Exists.intro; refine ⟨?_, ?_⟩
      · rintro w ⟨r1, r2, r3, r4⟩; go_simp; try with_reducible rfl
      simp only [Act.put, List.setIfInBounds_toArray, List.set_cons_succ, List.set_cons_zero]
      refine Lim.stepR 1 (fun _ => trivial) rfl (by kernel_rfl) (fun _ _ _ _ h => h) hC9 rfl ?_; apply Exists.intro; refine ⟨?_, ?_⟩
      · rintro w ⟨r1, r2, r3, r4⟩; go_simp; try with_reducible rfl
      simp only [Act.put, List.setIfInBounds_toArray, List.set_cons_succ, List.set_cons_zero]
      refine Lim.stepR 2 (fun _ => trivial) rfl (by kernel_rfl) (fun _ _ _ _ h => h) hC9 rfl ?_; apply Exists.intro; refine ⟨?_, ?_⟩
      · rintro w ⟨r1, r2, r3, r4⟩; go_simp; try with_reducible rfl
      simp only [Act.put, List.setIfInBounds_toArray, List.set_cons_succ, List.set_cons_zero]
      refine Lim.stepR 3 (fun _ => trivial) rfl (by kernel_rfl) (fun _ _ _ _ h => h) hC9 rfl ?_; apply Exists.intro; refine ⟨?_, ?_⟩
      · rintro w ⟨r1, r2, r3, r4⟩; go_simp; try with_reducible rfl
      simp only [Act.put, List.setIfInBounds_toArray, List.set_cons_succ, List.set_cons_zero]
      refine Lim.stepR 4 (fun _ => trivial) rfl (by kernel_rfl) (fun _ _ _ _ h => h) hC9 rfl ?_; apply Exists.intro; refine ⟨?_, ?_⟩
      · rintro w ⟨r1, r2, r3, r4⟩; go_simp; try with_reducible rfl
      simp only [Act.put, List.setIfInBounds_toArray, List.set_cons_succ, List.set_cons_zero]
      refine Lim.stepR 5 (fun _ => trivial) rfl (by kernel_rfl) (fun _ _ _ _ h => h) hC9 rfl ?_; apply Exists.intro; refine ⟨?_, ?_⟩
      · rintro w ⟨r1, r2, r3, r4⟩; go_simp; try with_reducible rfl
      simp only [Act.put, List.setIfInBounds_toArray, List.set_cons_succ, List.set_cons_zero]
      refine Lim.stepR 6 (fun _ => trivial) rfl (by kernel_rfl) (fun _ _ _ _ h => h) hC9 rfl ?_; apply Exists.intro; refine ⟨?_, ?_⟩
      · rintro w ⟨r1, r2, r3, r4⟩; go_simp; try with_reducible rfl
      simp only [Act.put, List.setIfInBounds_toArray, List.set_cons_succ, List.set_cons_zero]
      refine Lim.stepR 7 (fun _ => trivial) rfl (by kernel_rfl) (fun _ _ _ _ h => h) hC9 rfl ?_; apply Exists.intro; refine ⟨?_, ?_⟩
      · rintro w ⟨r1, r2, r3, r4⟩; go_simp; try with_reducible rfl
      simp only [Act.put, List.setIfInBounds_toArray, List.set_cons_succ, List.set_cons_zero]
      refine Lim.stepR 8 (fun _ => trivial) rfl (by kernel_rfl) (fun _ _ _ _ h => h) hC9 rfl ?_; apply Exists.intro; refine ⟨?_, ?_⟩
      · rintro w ⟨r1, r2, r3, r4⟩; go_simp; try with_reducible rfl
      simp only [Act.put, List.setIfInBounds_toArray, List.set_cons_succ, List.set_cons_zero]
      refine Lim.stepR 9 (fun _ => trivial) rfl (by kernel_rfl) (fun _ _ _ _ h => h) hC9 rfl ?_; apply Exists.intro; refine ⟨?_, ?_⟩
      · rintro w ⟨r1, r2, r3, r4⟩; go_simp; try with_reducible rfl
      simp only [Act.put, List.setIfInBounds_toArray, List.set_cons_succ, List.set_cons_zero]
      refine Lim.stepR 10 (fun _ => trivial) rfl (by kernel_rfl) (fun _ _ _ _ h => h) hC9 rfl ?_; apply Exists.intro; refine ⟨?_, ?_⟩
      · rintro w ⟨r1, r2, r3, r4⟩; go_simp; try with_reducible rfl
      simp only [Act.put, List.setIfInBounds_toArray, List.set_cons_succ, List.set_cons_zero]
      refine Lim.stepX 11 (fun _ => trivial) rfl (by kernel_rfl) rfl rfl (fun K hK => ?_)   -- E mapUpdate
      have hwf : (Lit.int .i64 (max 0 (IntKind.i64.wrap (cv - rv)))).wf = true := by
        rcases Int.le_total 0 (IntKind.i64.wrap (cv - rv)) with h | h
        · rw [Int.max_eq_right h]; exact wf_wrapI _
        · rw [Int.max_eq_left h]; decide
      obtain ⟨w9, hup, hm9, hg9⟩ := HI8.out.1.updateI (by have := HDS.out; unfold maxLen; omega) HST.out.1 HST.out.2.1 hwf
      go_simp
      refine hK _ _ ?_
      clear hup hwf
      simp only [Act.put, List.setIfInBounds_toArray, List.set_cons_succ, List.set_cons_zero]
      refine Lim.segC (fun _ => True) [] ?_
      refine Lim.stepD (by kernel_rfl) ?_
      clear hC9
      have hs9 := Sep.of_grown hg9
      have hr1 := HRW.out
      have hr2 := HBW.out
      have hrg9 := HI8.out.2.2.2.kept hg9 (fun e => by have := Option.some.inj e; omega) (fun e => by have := Option.some.inj e; omega)
      have hRb : ∀ a c, 0 ≤ (R a c).getD 0 ∧ (R a c).getD 0 ≤ 2000 := fun a c => by
        cases hs : R a c with
        | none => exact ⟨by simp, by simp⟩
        | some v =>
          have h1 : (hsF m.n m.wd (fun k => es.getD k 0) (fun k => ss.getD k 0) a c).isSome = true := by rw [← HFF.out.1.so a c, hs]; rfl
          obtain ⟨ha, hc⟩ := hsF_lt HMO.out.w0 h1
          have h2 := HFF.out.1.range (hsF_symm HMO.out.w0) (fun a b => (hsF_range HE.out.1 HE.out.2 a b).2) ha hc
          rw [hs] at h2
          exact h2
      have HNX : Hid (w9.ranges Try.prog 120 (plainElem Try.prog 3) ba r 400 D (fun z => left z && !z.sameKey (sideI x y)) cnt1 ∧ MapS w9 bg (Maps.size D - cnt1) (fun a c => if (a : Int) = x ∧ (c : Int) = y then some (max 0 (IntKind.i64.wrap (cv - rv))) else G a c) ∧ DoneS D (fun z => left z && !z.sameKey (sideI x y)) (fun a c => max 0 ((hsF m.n m.wd (fun k => es.getD k 0) (fun k => ss.getD k 0) a c).getD 0 - (R a c).getD 0)) (fun a c => if (a : Int) = x ∧ (c : Int) = y then some (max 0 (IntKind.i64.wrap (cv - rv))) else G a c) ∧ FlE w9 B bf bm m.n m.wd c oa oc (.slice ea m.n ec) (.slice sa m.n sc) m.os M Fr R ∧ Below w.heap.size w w9) := Lib.hid (by
        refine ⟨hrg9, hm9.more (by have := HST.out.2.2.2.2; omega), HI.out.2.1.step HST.out.1 HST.out.2.1 HST.out.2.2.1 (fun a c' ha hc hx hy => ?_), HI8.out.2.1.sep hs9 (fun e => by cases e; omega) (fun e => by cases e; omega) (fun k e => by cases e; have := HV.out.1; omega), HI8.out.2.2.1.trans (hs9.below HI8.out.2.2.1.size (fun k e => by cases e; omega))⟩
        have h1 := HST.out.2.2.2.1 a c' ha hc hx hy
        have h2 := HRV.out a c' ha hc hx hy
        have h3 := hsF_range HE.out.1 HE.out.2 a c' (wd := m.wd)
        have h4 := hRb a c'
        rw [← h1] at h3
        rw [← h2] at h4
        show max 0 (IntKind.i64.wrap (cv - rv)) = max 0 (_ - _)
        rw [← h1, ← h2, IntWalk.i64_in _ (by omega)])
      clear hrg9 hs9 hr1 hr2 hRb hm9 hg9
      go_wp2_with fail
      go_roundw
      case rel => exact ⟨_, cnt1, _, HNX.out.1, by have := HST.out.2.2.2.2; omega, Lib.hid HNX.out.2⟩
      case measure => rw [HNX.out.1.left_eq, HRG.out.left_eq]; exact HST.out.2.2.2.2
end Go.Proofs.Ytkjcnkkmhkcddaa
/-
  Walks and divisions: as many families by walks as houses that a best division cuts (plain words, for EnclaveDivided).
-/
namespace Go.Proofs.Ytkjcnkkmhkcddaa
open Go.RowKit Go.Shelf
open Lim

theorem WOk.of_good {m : Mp} {L : List Nat} {c : Int} (hg : goodW m L = true) (hc : 0 ≤ c) (hl : ∀ p ∈ L, p < m.n) : WOk m.n m.own (L, c) := by
  obtain ⟨h1, h2, h3⟩ := goodW_iff.1 hg
  have hpos : 0 < L.length := by
    unfold goesB at h1
    rw [Bool.and_eq_true, decide_eq_true_eq] at h1
    exact h1.2
  refine ⟨hl, hc, L.getD 0 0, L.getD (L.length - 1) 0, ?_, ?_, h2, h3⟩
  · show L.head? = _
    rw [List.head?_eq_getElem?, List.getD_eq_getElem?_getD, List.getElem?_eq_getElem hpos]; rfl
  · show L.getLast? = _
    rw [List.getLast?_eq_getElem?, List.getD_eq_getElem?_getD, List.getElem?_eq_getElem (by omega)]; rfl
theorem wuse_comm (x y : Nat) : ∀ W : Wks, wuse W x y = wuse W y x
  | [] => rfl
  | w :: W => by rw [wuse_cons, wuse_cons, wuse_comm x y W]; unfold use2; rw [Int.add_comm (dirc w.1 x y)]
theorem walks_le_off {n : Nat} {own : Nat → Int} {h : Nat → Nat → Int} {D : Nat → Bool} {W : Wks} (hW : ∀ w ∈ W, WOk n own w) (hu : ∀ x y, x < n → y < n → x ≠ y → wuse W x y ≤ h x y) (K : Keeps n own D) : wtot W ≤ cutOf n h D := by
  have h1 := walks_le (h := fun x y => if x = y then wuse W x y else h x y) hW (fun x y hx hy => by
    by_cases e : x = y
    · show _ ≤ ite _ _ _; rw [if_pos e]; exact Int.le_refl _
    · show _ ≤ ite _ _ _; rw [if_neg e]; exact hu x y hx hy e) K
  refine Int.le_trans h1 (Int.le_of_eq ?_)
  unfold cutOf
  refine sm_congr n fun a _ => sm_congr n fun b _ => ?_
  by_cases hd : D a = false ∧ D b = true
  · have e : a ≠ b := fun e => by rw [e] at hd; rw [hd.1] at hd; exact absurd hd.2 (by decide)
    rw [if_pos hd, if_pos hd]
    show ite _ _ _ = _
    rw [if_neg e]
  · rw [if_neg hd, if_neg hd]
theorem PGood.le {m : Mp} {h : Nat → Nat → Int} {D : Nat → Bool} {W : Wks} (H : PGood m h W) (hs : ∀ a b, h a b = h b a) (hw : ∀ w ∈ W, 0 ≤ w.2 ∧ ∀ p ∈ w.1, p < m.n) (K : Keeps m.n m.own D) : wtot W ≤ cutOf m.n h D :=
  walks_le_off (fun w hm => WOk.of_good (H.1 w hm) (hw w hm).1 (hw w hm).2) (fun x y hx hy hne => by
    rcases Nat.lt_or_gt_of_ne hne with e | e
    · exact H.2 x y e hy
    · rw [wuse_comm, hs]; exact H.2 y x e hx) K
section
variable {wd hi : Nat} {os es ss : List Int} {c : Int} {Ws : Wks}
theorem WkDone.total (L : LandG wd hi os es ss) (H : WkDone ⟨wd, os⟩ (hsF (Mp.n ⟨wd, os⟩) wd (fun k => es.getD k 0) (fun k => ss.getD k 0)) Ws) (hm : IsMin (wd * hi) wd (fun k => os.getD k 0) (fun k => es.getD k 0) (fun k => ss.getD k 0) c) : wtot Ws = c := by
  have hn : Mp.n ⟨wd, os⟩ = wd * hi := L.lo
  have hd : wd * hi % wd = 0 := Nat.mul_mod_right _ _
  obtain ⟨D, K, hD⟩ := H.cut
  rw [hn] at H K hD
  obtain ⟨D2, K2, hD2⟩ := hm.ex
  have h1 := hm.le D K
  have hD : wtot Ws = cutOf (wd * hi) (fun a b => (hsF (wd * hi) wd (fun k => es.getD k 0) (fun k => ss.getD k 0) a b).getD 0) D := hD
  rw [cutES_eq L.w1 hd] at hD
  have h2 : wtot Ws ≤ cutOf (wd * hi) (fun a b => (hsF (wd * hi) wd (fun k => es.getD k 0) (fun k => ss.getD k 0) a b).getD 0) D2 :=
    walks_le_off (own := fun k => os.getD k 0) (fun w hw => by
      have h := H.ok w hw
      have h3 := WOk.of_good h.1 (c := w.2) (by omega) h.2.2.1
      rw [hn] at h3
      exact h3) (fun x y _ _ _ => H.us x y) K2
  rw [cutES_eq L.w1 hd, hD2] at h2
  omega
theorem WkDone.few (L : LandG wd hi os es ss) (hx : ∀ k, k < wd * hi → es.getD k 0 ≤ 11 ∧ ss.getD k 0 ≤ 11) (h49 : wd * hi ≤ 49) (H : WkDone ⟨wd, os⟩ (hsF (Mp.n ⟨wd, os⟩) wd (fun k => es.getD k 0) (fun k => ss.getD k 0)) Ws) : Ws.length ≤ 1078 := by
  have hn : Mp.n ⟨wd, os⟩ = wd * hi := L.lo
  have hd : wd * hi % wd = 0 := Nat.mul_mod_right _ _
  obtain ⟨D, K, hD⟩ := H.cut
  rw [hn] at hD
  have hD : wtot Ws = cutOf (wd * hi) (fun a b => (hsF (wd * hi) wd (fun k => es.getD k 0) (fun k => ss.getD k 0) a b).getD 0) D := hD
  rw [cutES_eq L.w1 hd] at hD
  have h1 := H.many
  have h2 : cutES (wd * hi) wd (fun k => es.getD k 0) (fun k => ss.getD k 0) D ≤ (wd * hi : Nat) * 22 := by
    unfold cutES
    refine sm_bound _ fun a ha => ?_
    have h3 := hx a ha
    have h4 := L.e a ha
    have h5 := L.s a ha
    show (ite _ (es.getD a 0) 0 : Int) + ite _ (ss.getD a 0) 0 ≤ 22
    split <;> split <;> omega
  omega
theorem natW_wkI (ps : List (Go.Value × List Nat × Int)) : natW (wkI ps) = ps.map Prod.snd := by
  unfold natW wkI
  rw [List.map_map]
  refine List.map_congr_left fun p _ => ?_
  show ((p.2.1.map Int.ofNat).map Int.toNat, p.2.2) = p.2
  rw [List.map_map]
  have : (Int.toNat ∘ Int.ofNat) = id := by funext x; rfl
  rw [this, List.map_id]
theorem wErr_ok {n : Nat} {ws : List (List Int × Int)} (h1 : ws.length ≤ 2000) (h2 : ∀ w ∈ ws, w.1.length ≤ 100 ∧ (∀ p ∈ w.1, 0 ≤ p ∧ p < n) ∧ (1 ≤ w.2 ∧ w.2 ≤ 1000)) : wErr n ws = 0 := by
  unfold wErr
  rw [if_neg (by
    rintro (h | ⟨w, hw, h⟩)
    · omega
    · have := (h2 w hw).1; omega), if_neg (by
    rintro ⟨w, hw, p, hp, h⟩
    exact h ((h2 w hw).2.1 p hp)), if_neg (by
    rintro ⟨w, hw, h⟩
    exact h (h2 w hw).2.2)]
theorem proves_walks {w w' : Go.World} {e : Go.Ending} {ps : List (Go.Value × List Nat × Int)} (L : LandG wd hi os es ss) (hl : ps.length ≤ 2000) (H : WkDone ⟨wd, os⟩ (hsF (Mp.n ⟨wd, os⟩) wd (fun k => es.getD k 0) (fun k => ss.getD k 0)) (ps.map Prod.snd)) (ha : ProAns wd os es ss (wkI ps) w e w') :
    Below w.heap.size w w' ∧ e = .returned (.tuple #[.int .i64 (wtot (ps.map Prod.snd)), .int .i64 0]) := by
  obtain ⟨hb, ha⟩ := ha
  refine ⟨hb, ?_⟩
  have hE : wErr os.length (wkI ps) = 0 := wErr_ok (by simp [wkI]; exact hl) (fun x hx => by
    unfold wkI at hx
    obtain ⟨p, hp, rfl⟩ := List.mem_map.1 hx
    have h := H.ok p.2 (List.mem_map.2 ⟨p, hp, rfl⟩)
    refine ⟨by rw [List.length_map]; exact h.2.2.2, fun y hy => ?_, h.2.1⟩
    obtain ⟨k, hk, rfl⟩ := List.mem_map.1 hy
    have h3 : k < os.length := h.2.2.1 k hk
    exact ⟨Int.natCast_nonneg k, by show (k : Int) < _; omega⟩)
  rcases ha with ⟨h, -⟩ | ⟨-, ⟨h, -⟩ | ⟨-, ⟨-, h⟩ | ⟨h, -⟩⟩⟩
  · exact absurd L.err h
  · exact absurd hE h
  · rw [h, natW_wkI]
  · refine absurd ?_ h
    rw [natW_wkI, Int.toNat_natCast]
    exact ⟨fun x hx => (H.ok x hx).1, fun a b _ _ => H.us a b⟩
theorem proves_one {w w' : Go.World} {e : Go.Ending} {P : List Int} {k : Int} (L : LandG wd hi os es ss) (hm : IsMin (wd * hi) wd (fun k => os.getD k 0) (fun k => es.getD k 0) (fun k => ss.getD k 0) c) (hP : P.length ≤ 100) (hp : ∀ p ∈ P, 0 ≤ p ∧ p < (wd * hi : Nat)) (hk : 1 ≤ k ∧ k ≤ 1000) (ha : ProAns wd os es ss [(P, k)] w e w') :
    Below w.heap.size w w' ∧ (e = .returned (.tuple #[.int .i64 0, .int .i64 9]) ∨ ∃ c', c' ≤ c ∧ e = .returned (.tuple #[.int .i64 c', .int .i64 0])) := by
  obtain ⟨hb, ha⟩ := ha
  refine ⟨hb, ?_⟩
  have hn : Mp.n ⟨wd, os⟩ = wd * hi := L.lo
  have hd : wd * hi % wd = 0 := Nat.mul_mod_right _ _
  have hE : wErr os.length [(P, k)] = 0 := wErr_ok (by simp) (fun x hx => by
    rw [List.mem_singleton.1 hx, L.lo]
    exact ⟨hP, hp, hk⟩)
  rcases ha with ⟨h, -⟩ | ⟨-, ⟨h, -⟩ | ⟨-, ⟨hg, h⟩ | ⟨-, h⟩⟩⟩
  · exact absurd L.err h
  · exact absurd hE h
  · refine .inr ⟨_, ?_, h⟩
    obtain ⟨D, K, hD⟩ := hm.ex
    rw [Int.toNat_natCast, L.lo] at hg
    have h1 := hg.le (D := D) (fun a b => by rw [hsF_symm L.w1]) (fun x hx => by
      have e : x = (P.map Int.toNat, k) := List.mem_singleton.1 hx
      rw [e]
      refine ⟨by omega, fun p hp' => ?_⟩
      obtain ⟨y, hy, rfl⟩ := List.mem_map.1 hp'
      have h2 := hp y hy
      rw [hn]; omega) (by rw [hn]; exact K)
    rw [hn, cutES_eq L.w1 hd, hD] at h1
    exact h1
  · exact .inl h
end
end Go.Proofs.Ytkjcnkkmhkcddaa
/-
  Two decks: one is written, the other stays (as PoF of the pillar seat).
-/
namespace Go.Proofs.Ytkjcnkkmhkcddaa
open Go.RowKit Go.Shelf
open Lim

/-- another deck is written -/
theorem Dk.off {W W' : World} {d e B : Nat} {cv : Value} {l : List Int} {k s : Int} (h : Dk W d cv l k s) (hB : RS B W cv l.length (u8s l)) (hBe : B ≤ e) (hde : d ≠ e) (hBd : B ≤ d) (hs : Sep (fun x => x = e) W W') : Dk W' d cv l k s := by
  have hdl : d < W.heap.size := World.block_lt_of_cell? _ _ h.c.1
  have he : W'.heap[d]? = W.heap[d]? := hs.same d hdl hde
  have hb : Below B W W' := hs.below (by omega) (fun x hx => by omega)
  exact ⟨⟨(World.cell?_of_block he).trans h.c.1, (World.cell?_of_block he).trans h.c.2.1, (World.cell?_of_block he).trans h.c.2.2⟩, ⟨(World.frozen?_of_block he).trans h.f.1, (World.frozen?_of_block he).trans h.f.2⟩, (hB.below hb).mono hBd, h.u, h.k0, h.s0⟩
set_option maxRecDepth 20000 in
set_option maxHeartbeats 1000000 in
/-- a deck of bytes, and what it is made of -/
theorem of_dk {B : Nat} {cv : Value} {l : List Int} {w : World} (hB : B ≤ w.heap.size) (h : RS B w cv l.length (u8s l)) (hu : ∀ x ∈ l, 0 ≤ x ∧ x ≤ 255) :
    Calls Try.prog 22 #[cv] w fun e w' => e = .returned (.pointer (some ⟨w.heap.size, 0, none⟩)) ∧ Dk w' w.heap.size cv l 0 9 ∧ Below w.heap.size w w' ∧ w'.heap.size = w.heap.size + 1 := by
  have hb : Below w.heap.size w (w.alloc (.cells #[cv, .int .i64 0, .int .u32 9] 102)) := (Below.refl _ w).alloc (Nat.le_refl _) _
  have HD : Hid (Dk (w.alloc (.cells #[cv, .int .i64 0, .int .u32 9] 102)) w.heap.size cv l 0 9) := Lib.hid
    ⟨⟨by simp [go_sem], by simp [go_sem], by simp [go_sem]⟩, ⟨by simp [go_sem], by simp [go_sem]⟩, (h.mono hB).below hb, hu, by omega, by omega⟩
  have HB := Lib.hid hb
  obtain ⟨a, cap, rfl, -⟩ := h
  clear hb
  go_enter Try.func22, Try.ntmps22
  go_wp2
  go_ret
  exact ⟨rfl, HD.out, HB.out, by simp⟩
theorem Dk.deck {W : World} {d : Nat} {cv : Value} {l : List Int} {k s : Int} (h : Dk W d cv l k s) {n : Nat} (hn : k ≤ n) : Deck W d n := ⟨cv, l, k, s, h, hn⟩
theorem Dk.below {W W' : World} {d : Nat} {cv : Value} {l : List Int} {k s : Int} (h : Dk W d cv l k s) (hb : Below W.heap.size W W') : Dk W' d cv l k s :=
  have hd : d < W.heap.size := World.block_lt_of_cell? _ _ h.c.1
  ⟨⟨cell_on hb h.c.1, cell_on hb h.c.2.1, cell_on hb h.c.2.2⟩, ⟨frozen_on hb h.c.2.1 h.f.1, frozen_on hb h.c.2.2 h.f.2⟩, h.r.below (hb.mono (Nat.le_of_lt hd)), h.u, h.k0, h.s0⟩
end Go.Proofs.Ytkjcnkkmhkcddaa
/-
  A number that is chosen by chance out of four: what a drawn region keeps.
-/
namespace Go.Proofs.Ytkjcnkkmhkcddaa
open Go.RowKit Go.Shelf
open Lim

theorem grown_on {w W W' : World} {d : Nat} (h : w.grownBy W (some d)) (hb : Below W.heap.size W W') : w.grownBy W' (some d) :=
  ⟨hb.os.trans h.os, hb.tape.trans h.tape, hb.output.trans h.output, Nat.le_trans h.size hb.size, fun k hk hd => (hb.block k (Nat.lt_of_lt_of_le hk h.size)).trans (h.block k hk hd)⟩
theorem heap_grow {W W' : World} {p : Nat} {o : Obj} (h : W.heap[p]? = some o) (hb : Below W.heap.size W W') : W'.heap[p]? = some o :=
  (hb.block p (Array.getElem?_eq_some_iff.1 h).1).trans h
theorem Deck.below {W W' : World} {d n : Nat} (h : Deck W d n) (hb : Below W.heap.size W W') : Deck W' d n := h.under hb h.lt
/-- a place that is chosen by chance: four numbers, a draw, one of them -/
structure Nx (w0 : World) (d c : Nat) (y1 y2 y3 y4 : Int) (done : Nat → Bool) (x313 x315 x316 x317 x36 : Value) (W : World) : Prop where
  g : w0.grownBy W (some d)
  dk : Deck W d (if done 14 = true then c + 1 else c)
  d12 : done 12 = true → ∃ p, x313 = .slice (some ⟨p, 0, none⟩) 4 4 ∧ w0.heap.size ≤ p ∧ W.heap[p]? = some (.cells #[.int .i64 y1, .int .i64 y2, .int .i64 y3, .int .i64 y4] 3 (0, 0))
  d14 : done 14 = true → ∃ r : Nat, x315 = .int .i64 r ∧ r < 4
  d15 : done 15 = true → ∃ p, ∃ r : Nat, r < 4 ∧ x316 = .pointer (some ⟨p, r, none⟩) ∧ w0.heap.size ≤ p ∧ W.heap[p]? = some (.cells #[.int .i64 y1, .int .i64 y2, .int .i64 y3, .int .i64 y4] 3 (0, 0))
  d16 : done 16 = true → ∃ v, x317 = .int .i64 v ∧ (v = y1 ∨ v = y2 ∨ v = y3 ∨ v = y4)
  d17 : done 17 = true → x36 = x317 ∧ done 16 = true
theorem Nx.begin {w0 : World} {d c : Nat} (hd : Deck w0 d c) {y1 y2 y3 y4 : Int} {x313 x315 x316 x317 x36 : Value} : Nx w0 d c y1 y2 y3 y4 (fun _ => false) x313 x315 x316 x317 x36 w0 :=
  ⟨grown_refl w0 _, by simpa using hd, fun h => (by cases h), fun h => (by cases h), fun h => (by cases h), fun h => (by cases h), fun h => (by cases h)⟩
theorem grown_heap {W W' : World} {d p : Nat} {o : Obj} (hg : W.grownBy W' (some d)) (h : W.heap[p]? = some o) (hne : p ≠ d) : W'.heap[p]? = some o :=
  (hg.block p (Array.getElem?_eq_some_iff.1 h).1 (fun e => hne (by cases e; rfl))).trans h
theorem Nx.st12 {w0 : World} {d c : Nat} {y1 y2 y3 y4 : Int} {done : Nat → Bool} {x313 x315 x316 x317 x36 : Value} {W : World} (H : Nx w0 d c y1 y2 y3 y4 done x313 x315 x316 x317 x36 W) (_ : done 12 = false) :
    Nx w0 d c y1 y2 y3 y4 (fun j => if j = 12 then true else done j) (.slice (some ⟨W.heap.size, 0, none⟩) 4 4) x315 x316 x317 x36 (W.alloc (.cells #[.int .i64 y1, .int .i64 y2, .int .i64 y3, .int .i64 y4] 3)) := by
  have hb : Below W.heap.size W (W.alloc (.cells #[.int .i64 y1, .int .i64 y2, .int .i64 y3, .int .i64 y4] 3)) := (Below.refl _ W).alloc (Nat.le_refl _) _
  exact ⟨grown_on H.g hb, by simpa using H.dk.below hb, fun _ => ⟨_, rfl, H.g.size, heap_alloc_new W _⟩, fun h => by simpa using H.d14 (by simpa using h), fun h => by obtain ⟨p, r, h0, e, h1, h2⟩ := H.d15 (by simpa using h); exact ⟨p, r, h0, e, h1, heap_grow h2 hb⟩, fun h => by simpa using H.d16 (by simpa using h), fun h => by simpa using H.d17 (by simpa using h)⟩
theorem Nx.st14 {w0 : World} {d c : Nat} {y1 y2 y3 y4 : Int} {done : Nat → Bool} {x313 x315 x316 x317 x36 : Value} {W W' : World} (H : Nx w0 d c y1 y2 y3 y4 done x313 x315 x316 x317 x36 W) (hd : done 14 = false) (hw : d < w0.heap.size) {r : Nat} (hr : r < 4) (h : Dealt d c W W') :
    Nx w0 d c y1 y2 y3 y4 (fun j => if j = 14 then true else done j) x313 (.int .i64 r) x316 x317 x36 W' := by
  refine ⟨grown_trans H.g h.2.1, by simpa using h.1, fun hh => ?_, fun _ => ⟨r, rfl, hr⟩, fun hh => ?_, fun h => by simpa using H.d16 (by simpa using h), fun h => by simpa using H.d17 (by simpa using h)⟩
  · obtain ⟨p, e, h1, h2⟩ := H.d12 (by simpa using hh)
    exact ⟨p, e, h1, grown_heap h.2.1 h2 (by omega)⟩
  · obtain ⟨p, r', h0, e, h1, h2⟩ := H.d15 (by simpa using hh)
    exact ⟨p, r', h0, e, h1, grown_heap h.2.1 h2 (by omega)⟩
theorem four_cells {W : World} {p r : Nat} {y1 y2 y3 y4 : Int} {t : TypeId} (h : W.heap[p]? = some (.cells #[.int .i64 y1, .int .i64 y2, .int .i64 y3, .int .i64 y4] t (0, 0))) (hr : r < 4) :
    ∃ v, W.cell? ⟨p, r, none⟩ = some (.int .i64 v) ∧ (v = y1 ∨ v = y2 ∨ v = y3 ∨ v = y4) := by
  have : r = 0 ∨ r = 1 ∨ r = 2 ∨ r = 3 := by omega
  rcases this with rfl | rfl | rfl | rfl
  · exact ⟨y1, by simp [World.cell?, h], .inl rfl⟩
  · exact ⟨y2, by simp [World.cell?, h], .inr (.inl rfl)⟩
  · exact ⟨y3, by simp [World.cell?, h], .inr (.inr (.inl rfl))⟩
  · exact ⟨y4, by simp [World.cell?, h], .inr (.inr (.inr rfl))⟩
theorem Nx.st15 {w0 : World} {d c : Nat} {y1 y2 y3 y4 : Int} {done : Nat → Bool} {x313 x315 x316 x317 x36 : Value} {W : World} (H : Nx w0 d c y1 y2 y3 y4 done x313 x315 x316 x317 x36 W) {p r : Nat} (hr : r < 4) (hp : w0.heap.size ≤ p) (h : W.heap[p]? = some (.cells #[.int .i64 y1, .int .i64 y2, .int .i64 y3, .int .i64 y4] 3 (0, 0))) :
    Nx w0 d c y1 y2 y3 y4 (fun j => if j = 15 then true else done j) x313 x315 (.pointer (some ⟨p, r, none⟩)) x317 x36 W :=
  ⟨H.g, by simpa using H.dk, fun h => by simpa using H.d12 (by simpa using h), fun h => by simpa using H.d14 (by simpa using h), fun _ => ⟨p, r, hr, rfl, hp, h⟩, fun h => by simpa using H.d16 (by simpa using h), fun h => by simpa using H.d17 (by simpa using h)⟩
theorem Nx.st16 {w0 : World} {d c : Nat} {y1 y2 y3 y4 : Int} {done : Nat → Bool} {x313 x315 x316 x317 x36 : Value} {W : World} (H : Nx w0 d c y1 y2 y3 y4 done x313 x315 x316 x317 x36 W) (hd : done 16 = false) {v : Int} (hv : v = y1 ∨ v = y2 ∨ v = y3 ∨ v = y4) :
    Nx w0 d c y1 y2 y3 y4 (fun j => if j = 16 then true else done j) x313 x315 x316 (.int .i64 v) x36 W :=
  ⟨H.g, by simpa using H.dk, fun h => by simpa using H.d12 (by simpa using h), fun h => by simpa using H.d14 (by simpa using h), fun h => by simpa using H.d15 (by simpa using h), fun _ => ⟨v, rfl, hv⟩, fun h => by have := (H.d17 (by simpa using h)).2; rw [hd] at this; cases this⟩
theorem Nx.st17 {w0 : World} {d c : Nat} {y1 y2 y3 y4 : Int} {done : Nat → Bool} {x313 x315 x316 x317 x36 : Value} {W : World} (H : Nx w0 d c y1 y2 y3 y4 done x313 x315 x316 x317 x36 W) (h16 : done 16 = true) :
    Nx w0 d c y1 y2 y3 y4 (fun j => if j = 17 then true else done j) x313 x315 x316 x317 x317 W :=
  ⟨H.g, by simpa using H.dk, fun h => by simpa using H.d12 (by simpa using h), fun h => by simpa using H.d14 (by simpa using h), fun h => by simpa using H.d15 (by simpa using h), fun h => by simpa using H.d16 (by simpa using h), fun _ => ⟨rfl, by simpa using h16⟩⟩
end Go.Proofs.Ytkjcnkkmhkcddaa
/-
  Divisions, walks, tries and a walk by chance: the contract of the law EnclaveDivided (under way).
-/
namespace Go.Proofs.Ytkjcnkkmhkcddaa
open Go.RowKit Go.Shelf
open Lim

attribute [local go_sem] Oper.semAt_some
/-- the law's memory: the second deck at dq; rows and boxes above it -/
structure DvM (w : World) (dq c : Nat) (R Q : List Row) (X : List (Nat × Obj)) (W : World) : Prop where
  me : Mem W (dq + 1) R Q X W
  dk : Deck W dq c
  b : Below w.heap.size w W
  lt : w.heap.size ≤ dq
section
variable {w W W' : World} {dq c : Nat} {R Q : List Row} {X : List (Nat × Obj)}
theorem DvM.below (h : DvM w dq c R Q X W) (hb : Below W.heap.size W W') : DvM w dq c R Q X W' :=
  ⟨h.me.rebase (fun k _ h2 => hb.block k h2) hb.size, h.dk.under hb h.dk.lt, h.b.trans (hb.mono h.b.size), h.lt⟩
theorem DvM.dealt (h : DvM w dq c R Q X W) (hd : Dealt dq c W W') : DvM w dq (c + 1) R Q X W' :=
  ⟨h.me.dealt hd (Nat.lt_succ_self _), hd.1, h.b.trans ((Sep.of_grown hd.2.1).below h.b.size (fun k e => by cases e; exact h.lt)), h.lt⟩
theorem DvM.lay (h : DvM w dq c R Q X W) (o : Obj) : DvM w dq c R Q ((W.heap.size, o) :: X) (W.alloc o) :=
  have hb := (Below.refl _ W).alloc (Nat.le_refl _) o
  ⟨(h.me.lay o).rebase (fun _ _ _ => rfl) (Nat.le_refl _), h.dk.under hb h.dk.lt, h.b.trans (hb.mono h.b.size), h.lt⟩
theorem DvM.addR (h : DvM w dq c R Q X W) (hb : Below W.heap.size W W') {r : Row} (hr : r.Owned W' W.heap.size) : DvM w dq c (r :: R) Q X W' :=
  ⟨(h.me.addR hb hr).rebase (fun _ _ _ => rfl) (Nat.le_refl _), h.dk.under hb h.dk.lt, h.b.trans (hb.mono h.b.size), h.lt⟩
theorem DvM.nilQ (h : DvM w dq c R Q X W) : DvM w dq c R (nilRow 3 1 :: Q) X W := ⟨h.me.nilQ _ _, h.dk, h.b, h.lt⟩
theorem DvM.layQ (h : DvM w dq c R Q X W) (o : Obj) {r : Row} (hr : r.Owned (W.alloc o) W.heap.size) : DvM w dq c R (r :: Q) X (W.alloc o) :=
  have hb := (Below.refl _ W).alloc (Nat.le_refl _) o
  ⟨(h.me.layQ o hr).rebase (fun _ _ _ => rfl) (Nat.le_refl _), h.dk.under hb h.dk.lt, h.b.trans (hb.mono h.b.size), h.lt⟩
theorem DvM.dropQ {r : Row} (h : DvM w dq c R [r] X W) : DvM w dq c R [] X W :=
  ⟨⟨h.me.b, h.me.o, h.me.r, fun _ h => absurd h List.not_mem_nil, h.me.x, h.me.xr, fun _ _ _ h => absurd h List.not_mem_nil, h.me.xx, List.Pairwise.nil, fun _ h => absurd h List.not_mem_nil⟩, h.dk, h.b, h.lt⟩
theorem DvM.push {v v' : Value} {n : Nat} {l : List Int} {x : Int} (h : DvM w dq c R [rwI v n l] X W) (ho : W'.ownsRow (dq + 1) 3 1 v' (n + 1) (ints l ++ [.int .i64 x])) (hg : W.grownBy W' v.ownBlock) (hb : v'.ownBlock = v.ownBlock ∨ v'.ownBlock = some W.heap.size) : DvM w dq c R [rwI v' (n + 1) (l ++ [x])] X W' := by
  have hlow : ∀ k, v.ownBlock = some k → dq + 1 ≤ k := fun k e => (owned_block (h.me.q (rwI v n l) (List.mem_singleton.2 rfl)) e).1
  have hs := Sep.of_grown hg
  have hq := Nat.lt_of_lt_of_le h.dk.lt hs.size
  have hl := h.lt
  have hb1 : Below (dq + 1) W W' := hs.below h.dk.lt hlow
  exact ⟨(h.me.push (Q1 := []) (Q2 := []) ho hg hb).rebase (fun _ _ _ => rfl) (Nat.le_refl _), h.dk.under hb1 (Nat.lt_succ_self _), h.b.trans (hs.below h.b.size (fun k e => by have := hlow k e; omega)), h.lt⟩
theorem DvM.more (h : DvM w dq c R Q X W) {c' : Nat} (hc : c ≤ c') : DvM w dq c' R Q X W := by
  obtain ⟨cv, l, k, s, hd, hk⟩ := h.dk
  exact ⟨h.me, ⟨cv, l, k, s, hd, by omega⟩, h.b, h.lt⟩
end
theorem DvM.chance {W W' : World} {w : World} {dq c c' : Nat} {R Q : List Row} {X : List (Nat × Obj)} (h : DvM w dq c R Q X W) (hg : W.grownBy W' (some dq)) (hd : Deck W' dq c') : DvM w dq c' R Q X W' :=
  ⟨h.me.rebase (fun k h1 h2 => hg.block k h2 (fun e => by cases e; omega)) hg.size |>.rebase (fun _ _ _ => rfl) (Nat.le_refl _), hd, h.b.trans ((Sep.of_grown hg).below h.b.size (fun k e => by cases e; exact h.lt)), h.lt⟩
theorem wkR_one {W : World} {S : Nat} {pa : Option Addr} {pc : Nat} {P : List Int} (hr : (rwI (.slice pa P.length pc) P.length P).Owned W S) (y : Int) :
    WkR (W.alloc (.cells #[.slice pa P.length pc, .int .i64 y] 83)).heap.size (W.alloc (.cells #[.slice pa P.length pc, .int .i64 y] 83)) (.slice (some ⟨W.heap.size, 0, none⟩) 1 1) [(P, y)] := by
  refine ⟨_, _, rfl, fun _ => ⟨W.heap.size, 0, rfl, by simp, fun k hk => ?_⟩⟩
  obtain rfl : k = 0 := by simpa using hk
  have hb : Below W.heap.size W (W.alloc (.cells #[.slice pa P.length pc, .int .i64 y] 83)) := (Below.refl _ W).alloc (Nat.le_refl _) _
  refine ⟨pa, pc, by simp [go_sem], by simp [go_sem], ((RS.of_owns hr).below hb).mono hb.size, ?_⟩
  show P.length ≤ pc
  rcases hr.2 with ⟨h3, h4⟩ | ⟨g2, cap2, cur, h3, -, -, h4, -⟩
  · have h4 : P.length = 0 := h4
    omega
  · have h3 : Value.slice pa P.length pc = .slice (some ⟨g2, 0, none⟩) P.length cap2 := h3
    simp only [Value.slice.injEq] at h3
    rw [h3.2.2]
    exact h4
theorem proves_oner {wd hi : Nat} {os es ss : List Int} {c : Int} {w w' : Go.World} {e : Go.Ending} {P : List Int} {k : Int} (L : LandG wd hi os es ss) (hm : IsMin (wd * hi) wd (fun k => os.getD k 0) (fun k => es.getD k 0) (fun k => ss.getD k 0) c) (hP : P.length ≤ 100) (hp : ∀ p ∈ P, 0 ≤ p ∧ p < (wd * hi : Nat)) (hk : 1 ≤ k ∧ k ≤ 1000) (ha : ProAns wd os es ss [(P, k)] w e w') :
    Below w.heap.size w w' ∧ ∃ r er : Int, e = .returned (.tuple #[.int .i64 r, .int .i64 er]) ∧ (er = 9 ∨ er = 0 ∧ r ≤ c) := by
  obtain ⟨hb, h⟩ := proves_one L hm hP hp hk ha
  refine ⟨hb, ?_⟩
  rcases h with h | ⟨c', hc, h⟩
  · exact ⟨_, _, h, .inl rfl⟩
  · exact ⟨_, _, h, .inr ⟨rfl, hc⟩⟩
theorem snoc_v {P : Nat → Int → Prop} {ws : List Int} {p : Nat} {o : Int} (hl : ws.length = p) (h : ∀ k, k < p → P k (ws.getD k 0)) (ho : P p o) : ∀ k, k < p + 1 → P k ((ws ++ [o]).getD k 0) := fun k hk => by
  by_cases e : k = p
  · subst e
    have : (ws ++ [o]).getD k 0 = o := by rw [← hl]; simp
    rw [this]; exact ho
  · have : (ws ++ [o]).getD k 0 = ws.getD k 0 := by
      rw [List.getD_eq_getElem?_getD, List.getD_eq_getElem?_getD, List.getElem?_append_left (by omega)]
    rw [this]; exact h k (by omega)
theorem ownL_div {wd hi : Nat} {os : List Int} {M : Nat → Bool} (K : Keeps (wd * hi) (fun k => os.getD k 0) (fun k => !M k)) : DivL wd hi os (ownL M (wd * hi)) := by
  refine ⟨ownL_length _ _, fun k hk => ?_, fun k hk => ?_⟩
  · rw [ownL_getD M hk]; split <;> simp
  · rw [ownL_getD M hk]
    have h : os.getD k 0 = -1 ∨ (os.getD k 0 = 0 ∧ (!M k) = false) ∨ (os.getD k 0 = 1 ∧ (!M k) = true) := K k hk
    rcases h with h | ⟨h1, h2⟩ | ⟨h1, h2⟩
    · exact .inl h
    · exact .inr (by rw [h1, if_pos (by simpa using h2)])
    · exact .inr (by rw [h1, if_neg (by simpa using h2)])
theorem ownL_cut {n wd : Nat} {E S : Nat → Int} {M : Nat → Bool} (hw : 1 ≤ wd) (hd : n % wd = 0) : cutES n wd E S (fun k => decide ((ownL M n).getD k 0 = 1)) = cutES n wd E S (fun k => !M k) := by
  have e : ∀ k, k < n → decide ((ownL M n).getD k 0 = 1) = !M k := fun k hk => by
    rw [ownL_getD M hk]; cases M k <;> simp
  unfold cutES
  refine sm_congr n fun a ha => ?_
  show (if a % wd + 1 < wd ∧ decide ((ownL M n).getD (a + 1) 0 = 1) ≠ decide ((ownL M n).getD a 0 = 1) then E a else 0) + (if a + wd < n ∧ decide ((ownL M n).getD (a + wd) 0 = 1) ≠ decide ((ownL M n).getD a 0 = 1) then S a else 0) = _
  rw [e a ha]
  have h1 : (if a % wd + 1 < wd ∧ decide ((ownL M n).getD (a + 1) 0 = 1) ≠ (!M a) then E a else 0) = if a % wd + 1 < wd ∧ (!M (a + 1)) ≠ (!M a) then E a else 0 := by
    by_cases h : a % wd + 1 < wd
    · rw [e (a + 1) (mod_succ hd ha h).1]
    · rw [if_neg (fun x => h x.1), if_neg (fun x => h x.1)]
  have h2 : (if a + wd < n ∧ decide ((ownL M n).getD (a + wd) 0 = 1) ≠ (!M a) then S a else 0) = if a + wd < n ∧ (!M (a + wd)) ≠ (!M a) then S a else 0 := by
    by_cases h : a + wd < n
    · rw [e (a + wd) h]
    · rw [if_neg (fun x => h x.1), if_neg (fun x => h x.1)]
  rw [h1, h2]
theorem walks_n {n wd hi : Nat} {oa ea sa : Option Addr} {oc ec sc : Nat} {os es ss : List Int} {w : World} (L : LandG wd hi os es ss) (hn : n = wd * hi) (ho : RS w.heap.size w (.slice oa n oc) os.length (ints os)) (he : RS w.heap.size w (.slice ea n ec) es.length (ints es)) (hs : RS w.heap.size w (.slice sa n sc) ss.length (ints ss)) :
    Calls Try.prog 42 #[.agg #[.int .i64 wd, .slice oa n oc, .slice ea n ec, .slice sa n sc]] w fun e w' => Below w.heap.size w w' ∧ ∃ v ps, e = .returned (.tuple #[v, .int .i64 0]) ∧ WkR w'.heap.size w' v (wkI ps) ∧ WkDone ⟨wd, os⟩ (hsF (Mp.n ⟨wd, os⟩) wd (fun k => es.getD k 0) (fun k => ss.getD k 0)) (ps.map Prod.snd) := by
  have e : n = Mp.n ⟨wd, os⟩ := by rw [hn]; exact L.lo.symm
  subst e
  exact walks_any (m := ⟨wd, os⟩) L (Nat.le_refl _) ho he hs

set_option maxRecDepth 100000 in
set_option maxHeartbeats 8000000 in
theorem dividedl_any {B : Nat} {cv cv2 : Value} {l l2 : List Int} {w : World} (hB : B ≤ w.heap.size) (hv : RS B w cv l.length (u8s l)) (hu : ∀ x ∈ l, 0 ≤ x ∧ x ≤ 255) (hv2 : RS B w cv2 l2.length (u8s l2)) (hu2 : ∀ x ∈ l2, 0 ≤ x ∧ x ≤ 255) :
    Calls Try.prog 10 #[cv, cv2] w fun e w' => e = .returned (.bool true) ∧ Below w.heap.size w w' := by
  have CO := Lib.hid (of_dk hB hv hu)
  have HCV := Lib.hid (And.intro hv2 (And.intro hu2 hB))
  obtain ⟨xa, xc, rfl, -⟩ := hv
  obtain ⟨ya, yc, rfl, -⟩ := hv2
  clear hB hu hu2
  go_enter Try.func10, Try.ntmps10
  go_wp2_with fail
  refine CO.out.mono ?_
  rintro e w1 ⟨rfl, hdk, hb, hz⟩
  have CP := Lib.hid (of_dk (B := B) (w := w1) (by have := HCV.out.2.2; omega) (HCV.out.1.below (hb.mono HCV.out.2.2)) HCV.out.2.1)
  have HB1 := Lib.hid (And.intro hdk (And.intro hb hz))
  clear hdk hb hz CO
  go_wp2_with fail
  refine CP.out.mono ?_
  rintro e w2 ⟨rfl, hdk2, hb2, hz2⟩
  have CM := Lib.hid (landed_any (C := 7) (R := 7) (w := w2) (by omega) (by omega) ((HB1.out.1.below hb2).deck (n := 0) (by omega)) (by omega))
  obtain ⟨dq, hdq⟩ : ∃ d, d = w1.heap.size := ⟨_, rfl⟩
  rw [← hdq] at hdk2 ⊢
  have HB2 : Hid (Dk w2 dq (.slice ya l2.length yc) l2 0 9 ∧ Below w.heap.size w w2 ∧ dq = w.heap.size + 1 ∧ RS B w2 (.slice ya l2.length yc) l2.length (u8s l2) ∧ w2.heap.size = dq + 1) := Lib.hid ⟨hdk2, HB1.out.2.1.trans (hb2.mono HB1.out.2.1.size), by rw [hdq]; exact HB1.out.2.2, (HCV.out.1.below (HB1.out.2.1.mono HCV.out.2.2)).below (hb2.mono (Nat.le_trans HCV.out.2.2 HB1.out.2.1.size)), by rw [hdq]; exact hz2⟩
  clear hdk2 hb2 hz2 CP HB1 hdq
  go_wp2_with fail
  refine CM.out.mono ?_
  rintro e w3 ⟨wd, hi, v1, v2, v3, os, es, ss, rfl, hwdC, hhi2, hhiR, hL, hLx, o1, o2, o3, hs⟩
  have HL : Hid (LandG wd hi os es ss ∧ wd ≤ 7 ∧ 2 ≤ hi ∧ hi ≤ 7 ∧ (∀ k, k < wd * hi → es.getD k 0 ≤ 11 ∧ ss.getD k 0 ≤ 11) ∧ os.getD 0 0 = 0 ∧ os.getD (wd * hi - 1) 0 = 1) := Lib.hid ⟨hL, hwdC, hhi2, hhiR, hLx⟩
  obtain ⟨n, hn⟩ : ∃ n, n = wd * hi := ⟨_, rfl⟩
  rw [← hn] at o1 o2 o3
  have hn2 : 2 ≤ n := by have h := Nat.mul_le_mul (n₁ := 1) (n₂ := wd) (m₁ := 2) (m₂ := hi) hL.w1 hhi2; omega
  obtain ⟨g1, k1, rfl⟩ : ∃ g cap, v1 = .slice (some ⟨g, 0, none⟩) n cap := form_pos (r := rwI v1 n os) o1 (show 0 < n by omega)
  obtain ⟨g2, k2, rfl⟩ : ∃ g cap, v2 = .slice (some ⟨g, 0, none⟩) n cap := form_pos (r := rwI v2 n es) o2 (show 0 < n by omega)
  obtain ⟨g3, k3, rfl⟩ : ∃ g cap, v3 = .slice (some ⟨g, 0, none⟩) n cap := form_pos (r := rwI v3 n ss) o3 (show 0 < n by omega)
  have HM2 : Hid (DvM w dq 0 [rwI (.slice (some ⟨g1, 0, none⟩) n k1) n os, rwI (.slice (some ⟨g2, 0, none⟩) n k2) n es, rwI (.slice (some ⟨g3, 0, none⟩) n k3) n ss] [] [] w3) := Lib.hid (by
    have hb2 : Below w.heap.size w w3 := HB2.out.2.1.trans (hs.below HB2.out.2.1.size (fun k e => by omega))
    have hB := HCV.out.2.2
    have hq := HB2.out.2.2.1
    have h2 := HB2.out.2.2.2.2
    have h3 := hs.size
    rw [h2] at o1 o2 o3
    exact ⟨Mem.rowsR (Below.refl _ w3) (by omega) (Row.three o1 o2 o3), (HB2.out.1.off HB2.out.2.2.2.1 hB (by omega) (by omega) hs).deck (by omega), hb2, by omega⟩)
  have hwd1 : 1 ≤ wd := hL.w1
  have hwd7 : wd ≤ 7 := hwdC
  have hnC : n ≤ 49 := by have h := Nat.mul_le_mul hwdC hhiR; omega
  have HN := Lib.hid hn
  have HDQ := Lib.hid HB2.out.2.2.1
  clear hs hn o1 o2 o3 hL hLx hhi2 hhiR hwdC CM HB2
  go_upto_region 3 with (fail)
  have HM3 : Hid (DvM w dq 0 [rwI (.slice (some ⟨g1, 0, none⟩) n k1) n os, rwI (.slice (some ⟨g2, 0, none⟩) n k2) n es, rwI (.slice (some ⟨g3, 0, none⟩) n k3) n ss] [] [(w3.heap.size, .cells #[.int .i64 wd, .slice (some ⟨g1, 0, none⟩) n k1, .slice (some ⟨g2, 0, none⟩) n k2, .slice (some ⟨g3, 0, none⟩) n k3] 44 (0, 0))] (w3.alloc (.cells #[.int .i64 wd, .slice (some ⟨g1, 0, none⟩) n k1, .slice (some ⟨g2, 0, none⟩) n k2, .slice (some ⟨g3, 0, none⟩) n k3] 44))) := Lib.hid (HM2.out.lay _)
  obtain ⟨q, hq⟩ : ∃ q, q = w3.heap.size := ⟨_, rfl⟩
  rw [← hq] at HM3 ⊢
  generalize w3.alloc (.cells #[.int .i64 wd, .slice (some ⟨g1, 0, none⟩) n k1, .slice (some ⟨g2, 0, none⟩) n k2, .slice (some ⟨g3, 0, none⟩) n k3] 44) = w4 at HM3 ⊢
  clear HM2 hq
  obtain ⟨c0, c1, c2, c3⟩ := HM3.out.me.box4 (q := q) (t := 44) (List.mem_singleton.2 rfl)
  have CD := Lib.hid (Divide_any (B := w4.heap.size) (wd := wd) (os := os) (es := es) (ss := ss) (w := w4) (by rw [HL.out.1.lo, HL.out.1.le, HL.out.1.ls, ← HN.out]; omega) (Nat.le_refl _) (HM3.out.me.rsI (v := .slice (some ⟨g1, 0, none⟩) n k1) (n := n) (.inl (.head _)) (by rw [HL.out.1.lo, HN.out])) (HM3.out.me.rsI (v := .slice (some ⟨g2, 0, none⟩) n k2) (n := n) (.inl (.tail _ (.head _))) (by rw [HL.out.1.le, HN.out])) (HM3.out.me.rsI (v := .slice (some ⟨g3, 0, none⟩) n k3) (n := n) (.inl (.tail _ (.tail _ (.head _)))) (by rw [HL.out.1.ls, HN.out])))
  go_wp2_with fail
  refine CD.out.mono ?_
  rintro e w5 h
  obtain ⟨hb5, M0, u0, best, rfl, hu0, hK, hcb, hmin⟩ := h.min HL.out.1
  have HM5 := Lib.hid (HM3.out.addR hb5 (r := rwI u0 n (ownL M0 n)) (by rw [HN.out]; exact hu0))
  have HMIN := Lib.hid (And.intro hmin (And.intro hK hcb))
  have HU0 : Hid ((rwI u0 n (ownL M0 n)).Owned w5 w4.heap.size) := Lib.hid (by rw [HN.out]; exact hu0)
  clear hb5 hmin CD HM3 c0 c1 c2 c3 h hu0 hK hcb
  obtain ⟨g4, k4, rfl⟩ : ∃ g cap, u0 = .slice (some ⟨g, 0, none⟩) n cap := form_pos (r := rwI u0 n (ownL M0 n)) HU0.out (show 0 < n by omega)
  have HM6 := HM5
  obtain ⟨c0, c1, c2, c3⟩ := HM6.out.me.box4 (q := q) (t := 44) (List.mem_singleton.2 rfl)
  have CC := cost_any (w := w5) (wv := .slice (some ⟨g4, 0, none⟩) n k4) HL.out.1 (ownL_div HMIN.out.2.1) (HM6.out.me.rsI (v := .slice (some ⟨g1, 0, none⟩) n k1) (n := n) (.inl (.tail _ (.head _))) (by rw [HL.out.1.lo, HN.out])) (HM6.out.me.rsI (v := .slice (some ⟨g2, 0, none⟩) n k2) (n := n) (.inl (.tail _ (.tail _ (.head _)))) (by rw [HL.out.1.le, HN.out])) (HM6.out.me.rsI (v := .slice (some ⟨g3, 0, none⟩) n k3) (n := n) (.inl (.tail _ (.tail _ (.tail _ (.head _))))) (by rw [HL.out.1.ls, HN.out])) (by rw [← HN.out]; exact HM6.out.me.rsI (v := .slice (some ⟨g4, 0, none⟩) n k4) (n := n) (.inl (List.mem_cons_self)) (ownL_length _ _))
  rw [ownL_cut HL.out.1.w1 (Nat.mul_mod_right _ _), ← HMIN.out.2.2] at CC
  replace CC := Lib.hid CC
  clear HM5 HU0
  go_wp2_with fail
  refine CC.out.mono ?_
  rintro e w6 ⟨rfl, hb6⟩
  have HM7 := Lib.hid (HM6.out.below hb6)
  clear HM6 CC hb6 c0 c1 c2 c3
  obtain ⟨c0, c1, c2, c3⟩ := HM7.out.me.box4 (q := q) (t := 44) (List.mem_singleton.2 rfl)
  have CW := Lib.hid (walks_n (w := w6) HL.out.1 HN.out (HM7.out.me.rsI (v := .slice (some ⟨g1, 0, none⟩) n k1) (n := n) (.inl (.tail _ (.head _))) (by rw [HL.out.1.lo, HN.out])) (HM7.out.me.rsI (v := .slice (some ⟨g2, 0, none⟩) n k2) (n := n) (.inl (.tail _ (.tail _ (.head _)))) (by rw [HL.out.1.le, HN.out])) (HM7.out.me.rsI (v := .slice (some ⟨g3, 0, none⟩) n k3) (n := n) (.inl (.tail _ (.tail _ (.tail _ (.head _))))) (by rw [HL.out.1.ls, HN.out])))
  go_wp2_with fail
  refine CW.out.mono ?_
  rintro e w7 ⟨hb7, wv, ps, rfl, hwr, hwd⟩
  have HM8 := Lib.hid (HM7.out.below hb7)
  have HWT := Lib.hid (And.intro (hwd.total HL.out.1 HMIN.out.1) (hwd.few HL.out.1 HL.out.2.2.2.2.1 (by have := HN.out; omega)))
  have hpl : ps.length ≤ 1078 := by have := HWT.out.2; simpa using this
  have hwr2 := hwr
  obtain ⟨wa, wc, ewv, -⟩ := hwr2
  rw [show (wkI ps).length = ps.length by simp [wkI]] at ewv
  subst ewv
  have HPL : Hid (∀ x ∈ wkI ps, x.1.length ≤ 100000) := Lib.hid (fun x hx => by
    unfold wkI at hx
    obtain ⟨p, hp, rfl⟩ := List.mem_map.1 hx
    have h := hwd.ok p.2 (List.mem_map.2 ⟨p, hp, rfl⟩)
    show (p.2.1.map Int.ofNat).length ≤ 100000
    rw [List.length_map]
    have := h.2.2.2
    omega)
  have HWD := Lib.hid hwd
  clear HM7 CW hb7 c0 c1 c2 c3 hwd
  obtain ⟨c0, c1, c2, c3⟩ := HM8.out.me.box4 (q := q) (t := 44) (List.mem_singleton.2 rfl)
  have CP := Lib.hid (Proves_any (B := w7.heap.size) (wd := wd) (os := os) (es := es) (ss := ss) (ws := wkI ps) (w := w7) (by rw [HL.out.1.lo, HL.out.1.le, HL.out.1.ls, ← HN.out]; omega) (by simp [wkI]; omega) (Nat.le_refl _) (HM8.out.me.rsI (v := .slice (some ⟨g1, 0, none⟩) n k1) (n := n) (.inl (.tail _ (.head _))) (by rw [HL.out.1.lo, HN.out])) (HM8.out.me.rsI (v := .slice (some ⟨g2, 0, none⟩) n k2) (n := n) (.inl (.tail _ (.tail _ (.head _)))) (by rw [HL.out.1.le, HN.out])) (HM8.out.me.rsI (v := .slice (some ⟨g3, 0, none⟩) n k3) (n := n) (.inl (.tail _ (.tail _ (.tail _ (.head _))))) (by rw [HL.out.1.ls, HN.out])) hwr HPL.out)
  clear hwr
  go_wp2_with fail
  refine CP.out.mono ?_
  rintro e w8 h
  obtain ⟨hb8, rfl⟩ := proves_walks HL.out.1 (by omega) HWD.out h
  rw [HWT.out.1]
  have HM9 := Lib.hid (HM8.out.below hb8)
  have t1 : (best != best) = false := by simp
  have t2 : decide ((2000 : Int) < ps.length) = false := by simp; omega
  clear h CP HM8 hb8 c0 c1 c2 c3 HWD HPL
  go_upto_region 9 with (fail)
  clear t1 t2
  have HM9' : Hid (DvM w dq (100 * 0) (rwI (.slice (some ⟨g4, 0, none⟩) n k4) n (ownL M0 n) :: [rwI (.slice (some ⟨g1, 0, none⟩) n k1) n os, rwI (.slice (some ⟨g2, 0, none⟩) n k2) n es, rwI (.slice (some ⟨g3, 0, none⟩) n k3) n ss]) [] [(q, .cells #[.int .i64 wd, .slice (some ⟨g1, 0, none⟩) n k1, .slice (some ⟨g2, 0, none⟩) n k2, .slice (some ⟨g3, 0, none⟩) n k3] 44 (0, 0))] w8) := HM9
  clear HM9
  go_wp2_with fail
  go_loopw [85] (fun v' wr => ∃ t : Nat, t ≤ 6 ∧ v' = .int .i64 t ∧ Hid (DvM w dq (100 * t) (rwI (.slice (some ⟨g4, 0, none⟩) n k4) n (ownL M0 n) :: [rwI (.slice (some ⟨g1, 0, none⟩) n k1) n os, rwI (.slice (some ⟨g2, 0, none⟩) n k2) n es, rwI (.slice (some ⟨g3, 0, none⟩) n k3) n ss]) [] [(q, .cells #[.int .i64 wd, .slice (some ⟨g1, 0, none⟩) n k1, .slice (some ⟨g2, 0, none⟩) n k2, .slice (some ⟨g3, 0, none⟩) n k3] 44 (0, 0))] wr)) (fun v' _ => 6 - (intOf v').toNat)
  case atStart => exact ⟨0, Nat.zero_le _, rfl, HM9'⟩
  case round =>
    clear HM9'
    obtain ⟨t, ht, rfl, hI⟩ := hrel
    by_cases h6 : t < 6
    · have h6' : (t : Int) < 6 := by omega
      obtain ⟨c0, c1, c2, c3⟩ := hI.out.me.box4 (q := q) (t := 44) (List.mem_singleton.2 rfl)
      have H0 : Hid (DvM w dq (100 * t + 2 * 0) (rwI (.slice (some ⟨g4, 0, none⟩) n k4) n (ownL M0 n) :: [rwI (.slice (some ⟨g1, 0, none⟩) n k1) n os, rwI (.slice (some ⟨g2, 0, none⟩) n k2) n es, rwI (.slice (some ⟨g3, 0, none⟩) n k3) n ss]) [rwI (.slice none 0 0) 0 []] [(q, .cells #[.int .i64 wd, .slice (some ⟨g1, 0, none⟩) n k1, .slice (some ⟨g2, 0, none⟩) n k2, .slice (some ⟨g3, 0, none⟩) n k3] 44 (0, 0))] wr) := Lib.hid hI.out.nilQ
      clear hI
      go_wp2_with fail
      go_loopw [18, 91] (fun v iv wr => ∃ (p : Nat) (ws : List Int), p ≤ n ∧ iv = .int .i64 p ∧ Hid (DvM w dq (100 * t + 2 * p) (rwI (.slice (some ⟨g4, 0, none⟩) n k4) n (ownL M0 n) :: [rwI (.slice (some ⟨g1, 0, none⟩) n k1) n os, rwI (.slice (some ⟨g2, 0, none⟩) n k2) n es, rwI (.slice (some ⟨g3, 0, none⟩) n k3) n ss]) [rwI v p ws] [(q, .cells #[.int .i64 wd, .slice (some ⟨g1, 0, none⟩) n k1, .slice (some ⟨g2, 0, none⟩) n k2, .slice (some ⟨g3, 0, none⟩) n k3] 44 (0, 0))] wr ∧ ws.length = p ∧ (∀ k, k < p → ws.getD k 0 = 0 ∨ ws.getD k 0 = 1) ∧ ∀ k, k < p → os.getD k 0 = -1 ∨ os.getD k 0 = ws.getD k 0)) (fun _ iv _ => n - (intOf iv).toNat)
      case atStart => exact ⟨0, [], Nat.zero_le _, rfl, Lib.hid ⟨H0.out, rfl, fun k hk => by omega, fun k hk => by omega⟩⟩
      case round =>
        clear H0 c0 c1 c2 c3
        obtain ⟨p, ws, hp, rfl, hP⟩ := hrel
        by_cases hpn : p < n
        · have hpn' : (p : Int) < n := by omega
          have d1 := hP.out.1.me.cellI (g := g1) (n := n) (cap := k1) (l := os) (j := p) (.inl (.tail _ (.head _))) (by rw [HL.out.1.lo, ← HN.out]; exact hpn)
          obtain ⟨o, ho⟩ : ∃ o, o = os.getD p 0 := ⟨_, rfl⟩
          rw [← ho] at d1
          have HO : Hid (o = -1 ∨ o = 0 ∨ o = 1) := Lib.hid (by have h := HL.out.1.o p (by rw [← HN.out]; exact hpn); rw [← ho] at h; omega)
          have HOE := Lib.hid ho
          clear ho
          go_upto_if 97 with (fail)
          obtain ⟨bb, hbb⟩ : ∃ bb, bb = (o == -1) := ⟨_, rfl⟩
          rw [← hbb]
          have HBB := Lib.hid hbb
          clear hbb
          go_cut [20] from 97 to 117 (fun s20 wc => ∃ (o1 : Int), s20 = .int .i64 o1 ∧ Hid ((o1 = 0 ∨ o1 = 1) ∧ (o = -1 ∨ o = o1)) ∧ Hid (DvM w dq (100 * t + 2 * p + 2) (rwI (.slice (some ⟨g4, 0, none⟩) n k4) n (ownL M0 n) :: [rwI (.slice (some ⟨g1, 0, none⟩) n k1) n os, rwI (.slice (some ⟨g2, 0, none⟩) n k2) n es, rwI (.slice (some ⟨g3, 0, none⟩) n k3) n ss]) [rwI u18 p ws] [(q, .cells #[.int .i64 wd, .slice (some ⟨g1, 0, none⟩) n k1, .slice (some ⟨g2, 0, none⟩) n k2, .slice (some ⟨g3, 0, none⟩) n k3] 44 (0, 0))] wc))
          case first =>
            cases bb with
            | false =>
              go_wp2
              go_meet
              case rel => exact ⟨o, rfl, Lib.hid ⟨by have h1 := HO.out; have h2 := HBB.out; rcases h1 with h1 | h1; (rw [h1] at h2; exact absurd h2 (by decide)); exact h1, .inr rfl⟩, Lib.hid (hP.out.1.more (by omega))⟩
            | true =>
              have HOM : Hid (o = -1) := Lib.hid (by have h := HBB.out; simpa using h.symm)
              have CE := Lib.hid (deck_draw (n := 2) hP.out.1.dk (by omega))
              obtain ⟨t2, ht2⟩ : ∃ t2 : Nat, t2 = t % 2 := ⟨_, rfl⟩
              have e5 : (t : Int).tmod 2 = (t2 : Int) := by rw [ht2]; exact (Int.ofNat_tmod t 2).symm
              have HT2 := Lib.hid ht2
              clear ht2
              go_wp2_with fail
              refine CE.out.mono ?_
              rintro e w12 ⟨x, rfl, hx, hdl⟩
              have HD1 := Lib.hid (hP.out.1.dealt hdl)
              have HX : Hid (x = 0 ∨ x = 1) := Lib.hid (by have h1 := hx.2.1; have h2 := hx.2.2 (by omega); omega)
              clear hdl hx CE d1
              by_cases h2 : 0 < t2
              · have h2' : (0 : Int) < t2 := by omega
                have CE := Lib.hid (deck_draw (n := 4) HD1.out.dk (by omega))
                go_wp2_with fail
                refine CE.out.mono ?_
                rintro e w13 ⟨y, rfl, hy, hdl⟩
                have HD2 := Lib.hid (HD1.out.dealt hdl)
                clear hdl hy CE
                by_cases hy0 : 0 < y
                · have d2 := HD2.out.me.cellI (g := g4) (n := n) (cap := k4) (l := ownL M0 n) (j := p) (.inl List.mem_cons_self) (by rw [ownL_length]; exact hpn)
                  rw [ownL_getD M0 hpn] at d2
                  obtain ⟨z, hz⟩ : ∃ z : Int, z = if M0 p = true then 0 else 1 := ⟨_, rfl⟩
                  rw [← hz] at d2
                  have HZ : Hid (z = 0 ∨ z = 1) := Lib.hid (by rw [hz]; split <;> simp)
                  clear hz
                  go_wp2
                  go_meet
                  case rel => exact ⟨z, rfl, Lib.hid ⟨HZ.out, .inl HOM.out⟩, Lib.hid (HD2.out.more (by omega))⟩
                · go_wp2
                  go_meet
                  case rel => exact ⟨x, rfl, Lib.hid ⟨HX.out, .inl HOM.out⟩, Lib.hid (HD2.out.more (by omega))⟩
              · have h2' : ¬ (0 : Int) < t2 := by omega
                go_wp2
                go_meet
                case rel => exact ⟨x, rfl, Lib.hid ⟨HX.out, .inl HOM.out⟩, Lib.hid (HD1.out.more (by omega))⟩
          case rest =>
            obtain ⟨o1, rfl, HO1, HM10⟩ := hcut
            have HPL : Hid (ws.length = p ∧ (∀ k, k < p → ws.getD k 0 = 0 ∨ ws.getD k 0 = 1) ∧ ∀ k, k < p → os.getD k 0 = -1 ∨ os.getD k 0 = ws.getD k 0) := Lib.hid hP.out.2
            clear hP d1 HBB
            obtain ⟨i0, hi0, hz0, hz1, hz2⟩ := info_parts Try.infoInt
            have HI := Lib.hid (And.intro hi0 (And.intro hz0 (And.intro hz1 hz2)))
            clear hi0 hz0 hz1 hz2
            have HMA := Lib.hid (HM10.out.below ((Below.refl _ wc).alloc (Nat.le_refl _) (.cells #[.int .i64 o1] 3)))
            clear HM10
            have HOW : Hid ((wc.alloc (.cells #[.int .i64 o1] 3)).ownsRow (dq + 1) 3 1 u18 p (ints ws)) := Lib.hid (HMA.out.me.q (rwI u18 p ws) (List.mem_singleton.2 rfl))
            have hp1 : IntKind.i64.wrap ((p : Int) + 1) = (p : Int) + 1 := IntWalk.i64_in _ (by omega)
            go_wp2_with (at_builtin; refine wpList_append_own_at _ rfl _ _ 22 rfl (dq + 1) 3 i0 (.int .i64 0) 1 8 Try.underlying22 HI.out.1 HI.out.2.1 HI.out.2.2.1 HI.out.2.2.2 rfl (by decide) _ _ _ rfl HOW.out ⟨wc.heap.size, 0, none⟩ 1 1 [.int .i64 o1] rfl rfl (cell_one_new _ _ _) (by simp [Value.oneCell']) (by unfold maxLen; omega) (by omega) HMA.out.me.o ?_; intro v' w11 hown11 hgrow _ hat; have H3 := Lib.hid (HMA.out.push (x := o1) hown11 hgrow hat); clear hown11 hgrow hat)
            go_roundw
            case rel => exact ⟨p + 1, ws ++ [o1], by omega, by go_num, Lib.hid ⟨H3.out.more (by omega), by rw [List.length_append, HPL.out.1]; rfl, snoc_v (P := fun _ x => x = 0 ∨ x = 1) HPL.out.1 HPL.out.2.1 HO1.out.1, snoc_v (P := fun k x => os.getD k 0 = -1 ∨ os.getD k 0 = x) HPL.out.1 HPL.out.2.2 (by rw [← HOE.out]; exact HO1.out.2)⟩⟩
            case measure => simp [intOf]; omega
        · have hpn' : ¬ (p : Int) < n := by omega
          obtain rfl : p = n := by omega
          obtain ⟨c0, c1, c2, c3⟩ := hP.out.1.me.box4 (q := q) (t := 44) (List.mem_singleton.2 rfl)
          have CK := Lib.hid (cost_any (wd := wd) HL.out.1 (ws := ws) ⟨by rw [hP.out.2.1, HN.out], by rw [← HN.out]; exact hP.out.2.2.1, by rw [← HN.out]; exact hP.out.2.2.2⟩ (hP.out.1.me.rsI (v := .slice (some ⟨g1, 0, none⟩) p k1) (n := p) (.inl (.tail _ (.head _))) (by rw [HL.out.1.lo, HN.out])) (hP.out.1.me.rsI (v := .slice (some ⟨g2, 0, none⟩) p k2) (n := p) (.inl (.tail _ (.tail _ (.head _)))) (by rw [HL.out.1.le, HN.out])) (hP.out.1.me.rsI (v := .slice (some ⟨g3, 0, none⟩) p k3) (n := p) (.inl (.tail _ (.tail _ (.tail _ (.head _))))) (by rw [HL.out.1.ls, HN.out])) (hP.out.1.me.rsI (.inr (List.mem_singleton.2 rfl)) hP.out.2.1))
          have HDL : Hid (DivL wd hi os ws) := Lib.hid ⟨by rw [hP.out.2.1, HN.out], by rw [← HN.out]; exact hP.out.2.2.1, by rw [← HN.out]; exact hP.out.2.2.2⟩
          go_wp2_with fail
          refine CK.out.mono ?_
          rintro e w10 ⟨rfl, hb10⟩
          have HJN := Lib.hid (hP.out.1.below hb10).dropQ
          have hle := HMIN.out.1.le _ HDL.out.keeps
          obtain ⟨cc, hcc⟩ : ∃ c, c = cutES (wd * hi) wd (fun k => es.getD k 0) (fun k => ss.getD k 0) (fun k => decide (ws.getD k 0 = 1)) := ⟨_, rfl⟩
          rw [← hcc] at hle ⊢
          have t3 : ¬ (cc < best) := by omega
          have hw1 : IntKind.i64.wrap ((t : Int) + 1) = (t : Int) + 1 := IntWalk.i64_in _ (by omega)
          clear CK hb10 hP hcc hle HDL c0 c1 c2 c3
          go_wp2_with fail
          go_roundw
          case rel => exact ⟨t + 1, by omega, by go_num, Lib.hid (HJN.out.more (by omega))⟩
          case measure => simp [intOf]; omega
    · have h6' : ¬ (t : Int) < 6 := by omega
      go_upto_region 28 with (fail)
      have H0 : Hid (DvM w dq (100 * t + 0) (rwI (.slice (some ⟨g4, 0, none⟩) n k4) n (ownL M0 n) :: [rwI (.slice (some ⟨g1, 0, none⟩) n k1) n os, rwI (.slice (some ⟨g2, 0, none⟩) n k2) n es, rwI (.slice (some ⟨g3, 0, none⟩) n k3) n ss]) [rwI (.slice (some ⟨wr.heap.size, 0, none⟩) 1 1) 1 [0]] [(q, .cells #[.int .i64 wd, .slice (some ⟨g1, 0, none⟩) n k1, .slice (some ⟨g2, 0, none⟩) n k2, .slice (some ⟨g3, 0, none⟩) n k3] 44 (0, 0))] (wr.alloc (.cells #[.int .i64 0] 3))) := Lib.hid (hI.out.layQ _ (World.ownsRow_lit wr #[.int .i64 0] 1 (Nat.le_refl _) (by unfold maxLen; omega) rfl))
      clear hI
      go_wp2_with fail
      generalize wr.heap.size = p0 at H0 ⊢
      go_loopw [23, 24, 138] (fun av pv iv wr => ∃ (k a : Nat) (P : List Int), k ≤ 40 ∧ iv = .int .i64 k ∧ av = .int .i64 a ∧ a < n ∧ Hid (DvM w dq (100 * t + k) (rwI (.slice (some ⟨g4, 0, none⟩) n k4) n (ownL M0 n) :: [rwI (.slice (some ⟨g1, 0, none⟩) n k1) n os, rwI (.slice (some ⟨g2, 0, none⟩) n k2) n es, rwI (.slice (some ⟨g3, 0, none⟩) n k3) n ss]) [rwI pv P.length P] [(q, .cells #[.int .i64 wd, .slice (some ⟨g1, 0, none⟩) n k1, .slice (some ⟨g2, 0, none⟩) n k2, .slice (some ⟨g3, 0, none⟩) n k3] 44 (0, 0))] wr ∧ (P.length ≤ k + 1) ∧ ∀ x ∈ P, 0 ≤ x ∧ x < n)) (fun _ _ iv _ => 40 - (intOf iv).toNat)
      case atStart => exact ⟨0, 0, [0], Nat.zero_le _, rfl, rfl, by omega, Lib.hid ⟨H0.out, Nat.le_refl _, fun x hx => by rw [List.mem_singleton.1 hx]; omega⟩⟩
      case round =>
        clear H0
        obtain ⟨k, a, P, hk, rfl, rfl, ha, hP⟩ := hrel
        have HPP : Hid (P.length ≤ k + 1 ∧ ∀ x ∈ P, 0 ≤ x ∧ x < n) := Lib.hid hP.out.2
        have HA : Hid (DvM w dq (100 * t + k) (rwI (.slice (some ⟨g4, 0, none⟩) n k4) n (ownL M0 n) :: [rwI (.slice (some ⟨g1, 0, none⟩) n k1) n os, rwI (.slice (some ⟨g2, 0, none⟩) n k2) n es, rwI (.slice (some ⟨g3, 0, none⟩) n k3) n ss]) [rwI u24 P.length P] [(q, .cells #[.int .i64 wd, .slice (some ⟨g1, 0, none⟩) n k1, .slice (some ⟨g2, 0, none⟩) n k2, .slice (some ⟨g3, 0, none⟩) n k3] 44 (0, 0))] wr) := Lib.hid hP.out.1
        have HT6 := Lib.hid (And.intro ht hk)
        clear hP h6'
        by_cases h40 : k < 40
        · have h40' : (k : Int) < 40 := by omega
          obtain ⟨c0, c1, c2, c3⟩ := HA.out.me.box4 (q := q) (t := 44) (List.mem_singleton.2 rfl)
          have d1 := HA.out.me.cellI (g := g1) (n := n) (cap := k1) (l := os) (j := a) (.inl (.tail _ (.head _))) (by rw [HL.out.1.lo, ← HN.out]; exact ha)
          obtain ⟨o, ho⟩ : ∃ o, o = os.getD a 0 := ⟨_, rfl⟩
          rw [← ho] at d1
          have ha' : (a : Int) < n := by omega
          clear ho
          by_cases h1 : o = 1
          · have t1 : (o == 1) = true := by rw [h1]; rfl
            clear h1
            go_upto_region 36 with (fail)
            clear d1 t1 c0 c1 c2 c3
            obtain ⟨pa, pc, epv⟩ : ∃ a cap, u24 = .slice a P.length cap := row_form (r := rwI u24 P.length P) (HA.out.me.q _ (List.mem_singleton.2 rfl))
            subst epv
            have HB0 := Lib.hid (HA.out.below (Below.refl _ wr).drew)
            have hC : (fun W => W.cell? ⟨q, 0, none⟩ = some (.int .i64 wd) ∧ W.cell? ⟨q, 1, none⟩ = some (.slice (some ⟨g1, 0, none⟩) n k1) ∧ W.cell? ⟨q, 2, none⟩ = some (.slice (some ⟨g2, 0, none⟩) n k2) ∧ W.cell? ⟨q, 3, none⟩ = some (.slice (some ⟨g3, 0, none⟩) n k3)) wr.drew := HB0.out.me.box4 (q := q) (t := 44) (List.mem_singleton.2 rfl)
            clear HA
            generalize hW0 : wr.drew = w6 at HB0 hC
            refine Lim.regC' (fun W => W.cell? ⟨q, 0, none⟩ = some (.int .i64 wd) ∧ W.cell? ⟨q, 1, none⟩ = some (.slice (some ⟨g1, 0, none⟩) n k1) ∧ W.cell? ⟨q, 2, none⟩ = some (.slice (some ⟨g2, 0, none⟩) n k2) ∧ W.cell? ⟨q, 3, none⟩ = some (.slice (some ⟨g3, 0, none⟩) n k3)) [] #[false, false, false, false, false, false, false, false, false, false, false, false, false] (by kernel_rfl) rfl ?_
            rw [hW0]; clear hW0
            refine Lim.stepR 0 (fun _ => trivial) rfl (by kernel_rfl) (fun _ _ _ _ h => h) hC rfl ?_; apply Exists.intro; refine ⟨?_, ?_⟩
            · rintro w ⟨r0, r1, r2, r3⟩; go_simp; try with_reducible rfl
            simp only [Act.put, List.setIfInBounds_toArray, List.set_cons_succ, List.set_cons_zero]
            refine Lim.stepR 1 (fun _ => trivial) rfl (by kernel_rfl) (fun _ _ _ _ h => h) hC rfl ?_; apply Exists.intro; refine ⟨?_, ?_⟩
            · rintro w ⟨r0, r1, r2, r3⟩; go_simp; try with_reducible rfl
            simp only [Act.put, List.setIfInBounds_toArray, List.set_cons_succ, List.set_cons_zero]
            refine Lim.stepR 2 (fun _ => trivial) rfl (by kernel_rfl) (fun _ _ _ _ h => h) hC rfl ?_; apply Exists.intro; refine ⟨?_, ?_⟩
            · rintro w ⟨r0, r1, r2, r3⟩; go_simp; try with_reducible rfl
            simp only [Act.put, List.setIfInBounds_toArray, List.set_cons_succ, List.set_cons_zero]
            refine Lim.stepE 3 (fun _ => trivial) rfl (by kernel_rfl) rfl (fun K hK => ?_)   -- E call
            go_simp
            refine ⟨rfl, (callsIn_wide.2 (deck_draw (n := 4) HB0.out.dk (by have := HT6.out; omega))).mono ?_⟩
            rintro e W2 ⟨x, rfl, hx, hdl⟩
            have HB1 := Lib.hid (HB0.out.dealt hdl)
            obtain ⟨y, hy⟩ : ∃ y, y = 1 + x := ⟨_, rfl⟩
            have hy4 : 1 ≤ y ∧ y ≤ 4 := by have := hx.2.1; have := hx.2.2 (by omega); omega
            have ewy : IntKind.i64.wrap (1 + x) = y := by rw [← hy]; exact IntWalk.i64_in _ (by omega)
            have HY := Lib.hid hy4
            have hC2 : (fun W => W.cell? ⟨q, 0, none⟩ = some (.int .i64 wd) ∧ W.cell? ⟨q, 1, none⟩ = some (.slice (some ⟨g1, 0, none⟩) n k1) ∧ W.cell? ⟨q, 2, none⟩ = some (.slice (some ⟨g2, 0, none⟩) n k2) ∧ W.cell? ⟨q, 3, none⟩ = some (.slice (some ⟨g3, 0, none⟩) n k3)) W2 := HB1.out.me.box4 (q := q) (t := 44) (List.mem_singleton.2 rfl)
            refine hK _ _ hC2 ?_
            clear hx hdl hy hy4 hC HB0
            simp only [Act.put, List.setIfInBounds_toArray, List.set_cons_succ, List.set_cons_zero]
            refine Lim.stepR 4 (fun _ => trivial) rfl (by kernel_rfl) (fun _ _ _ _ h => h) hC2 rfl ?_; apply Exists.intro; refine ⟨?_, ?_⟩
            · rintro w ⟨r0, r1, r2, r3⟩; go_simp; try with_reducible rfl
            simp only [Act.put, List.setIfInBounds_toArray, List.set_cons_succ, List.set_cons_zero]
            refine Lim.stepR 5 (fun _ => trivial) rfl (by kernel_rfl) (fun _ _ _ _ h => h) hC2 rfl ?_; apply Exists.intro; refine ⟨?_, ?_⟩
            · rintro w ⟨r0, r1, r2, r3⟩; go_simp; try with_reducible rfl
            simp only [Act.put, List.setIfInBounds_toArray, List.set_cons_succ, List.set_cons_zero]
            refine Lim.stepE 6 (fun _ => trivial) rfl (by kernel_rfl) rfl (fun K hK => ?_)   -- E buildSlice
            go_simp
            have HB2 := Lib.hid (HB1.out.lay (.cells #[.slice pa P.length pc, .int .i64 y] 83))
            have HW1 : Hid (WkR (W2.alloc (.cells #[.slice pa P.length pc, .int .i64 y] 83)).heap.size (W2.alloc (.cells #[.slice pa P.length pc, .int .i64 y] 83)) (.slice (some ⟨W2.heap.size, 0, none⟩) 1 1) [(P, y)]) := Lib.hid (wkR_one (HB1.out.me.q (rwI (.slice pa P.length pc) P.length P) (List.mem_singleton.2 rfl)) y)
            have hC3 : (fun W => W.cell? ⟨q, 0, none⟩ = some (.int .i64 wd) ∧ W.cell? ⟨q, 1, none⟩ = some (.slice (some ⟨g1, 0, none⟩) n k1) ∧ W.cell? ⟨q, 2, none⟩ = some (.slice (some ⟨g2, 0, none⟩) n k2) ∧ W.cell? ⟨q, 3, none⟩ = some (.slice (some ⟨g3, 0, none⟩) n k3)) (W2.alloc (.cells #[.slice pa P.length pc, .int .i64 y] 83)) := HB2.out.me.box4 (q := q) (t := 44) (List.mem_cons_of_mem _ (List.mem_singleton.2 rfl))
            refine hK _ _ hC3 ?_
            obtain ⟨p9, hp9⟩ : ∃ p, p = W2.heap.size := ⟨_, rfl⟩
            rw [← hp9] at HB2 HW1 ⊢
            clear hC2 HB1 ewy hp9
            generalize W2.alloc (.cells #[.slice pa P.length pc, .int .i64 y] 83) = W3 at HB2 HW1 hC3 ⊢
            simp only [Act.put, List.setIfInBounds_toArray, List.set_cons_succ, List.set_cons_zero]
            refine Lim.stepE 7 (fun _ => trivial) rfl (by kernel_rfl) rfl (fun K hK => ?_)   -- E call
            go_simp
            refine ⟨rfl, (callsIn_wide.2 (Proves_any (B := W3.heap.size) (wd := wd) (os := os) (es := es) (ss := ss) (ws := [(P, y)]) (w := W3) (by rw [HL.out.1.lo, HL.out.1.le, HL.out.1.ls, ← HN.out]; omega) (by simp) (Nat.le_refl _) (HB2.out.me.rsI (v := .slice (some ⟨g1, 0, none⟩) n k1) (n := n) (.inl (.tail _ (.head _))) (by rw [HL.out.1.lo, HN.out])) (HB2.out.me.rsI (v := .slice (some ⟨g2, 0, none⟩) n k2) (n := n) (.inl (.tail _ (.tail _ (.head _)))) (by rw [HL.out.1.le, HN.out])) (HB2.out.me.rsI (v := .slice (some ⟨g3, 0, none⟩) n k3) (n := n) (.inl (.tail _ (.tail _ (.tail _ (.head _))))) (by rw [HL.out.1.ls, HN.out])) HW1.out (fun x hx => by rw [List.mem_singleton.1 hx]; have h1 := HPP.out.1; have h2 := HT6.out.2; show P.length ≤ 100000; omega))).mono ?_⟩
            rintro e W4 h
            obtain ⟨hb, r, er, rfl, her⟩ := proves_oner HL.out.1 HMIN.out.1 (by have h1 := HPP.out.1; have h2 := HT6.out.2; omega) (by rw [← HN.out]; exact HPP.out.2) (by have := HY.out; omega) h
            have HB3 := Lib.hid (HB2.out.below hb)
            have HER := Lib.hid her
            have hC4 : (fun W => W.cell? ⟨q, 0, none⟩ = some (.int .i64 wd) ∧ W.cell? ⟨q, 1, none⟩ = some (.slice (some ⟨g1, 0, none⟩) n k1) ∧ W.cell? ⟨q, 2, none⟩ = some (.slice (some ⟨g2, 0, none⟩) n k2) ∧ W.cell? ⟨q, 3, none⟩ = some (.slice (some ⟨g3, 0, none⟩) n k3)) W4 := HB3.out.me.box4 (q := q) (t := 44) (List.mem_cons_of_mem _ (List.mem_singleton.2 rfl))
            refine hK _ _ hC4 ?_
            clear hb her h hC3 HB2 HW1
            simp only [Act.put, List.setIfInBounds_toArray, List.set_cons_succ, List.set_cons_zero]
            refine Lim.stepR 8 (fun _ => trivial) rfl (by kernel_rfl) (fun _ _ _ _ h => h) hC4 rfl ?_; apply Exists.intro; refine ⟨?_, ?_⟩
            · rintro w ⟨r0, r1, r2, r3⟩; go_simp; try with_reducible rfl
            simp only [Act.put, List.setIfInBounds_toArray, List.set_cons_succ, List.set_cons_zero]
            refine Lim.stepR 9 (fun _ => trivial) rfl (by kernel_rfl) (fun _ _ _ _ h => h) hC4 rfl ?_; apply Exists.intro; refine ⟨?_, ?_⟩
            · rintro w ⟨r0, r1, r2, r3⟩; go_simp; try with_reducible rfl
            simp only [Act.put, List.setIfInBounds_toArray, List.set_cons_succ, List.set_cons_zero]
            refine Lim.stepR 10 (fun _ => trivial) rfl (by kernel_rfl) (fun _ _ _ _ h => h) hC4 rfl ?_; apply Exists.intro; refine ⟨?_, ?_⟩
            · rintro w ⟨r0, r1, r2, r3⟩; go_simp; try with_reducible rfl
            simp only [Act.put, List.setIfInBounds_toArray, List.set_cons_succ, List.set_cons_zero]
            refine Lim.stepR 11 (fun _ => trivial) rfl (by kernel_rfl) (fun _ _ _ _ h => h) hC4 rfl ?_; apply Exists.intro; refine ⟨?_, ?_⟩
            · rintro w ⟨r0, r1, r2, r3⟩; go_simp; try with_reducible rfl
            simp only [Act.put, List.setIfInBounds_toArray, List.set_cons_succ, List.set_cons_zero]
            refine Lim.stepR 12 (fun _ => trivial) rfl (by kernel_rfl) (fun _ _ _ _ h => h) hC4 rfl ?_; apply Exists.intro; refine ⟨?_, ?_⟩
            · rintro w ⟨r0, r1, r2, r3⟩; go_simp; try with_reducible rfl
            simp only [Act.put, List.setIfInBounds_toArray, List.set_cons_succ, List.set_cons_zero]
            refine Lim.stepD (by kernel_rfl) ?_
            clear hC4
            rcases HER.out with rfl | ⟨rfl, hle⟩
            · go_wp2_with fail
              refine (awake_any _).mono ?_
              rintro e wz ⟨rfl, hb⟩
              have HBZ := Lib.hid (HB3.out.b.trans (hb.mono HB3.out.b.size))
              clear hb
              go_wp2
              go_ret
              exact ⟨rfl, HBZ.out⟩
            · have t4 : decide (r ≤ (best : Int)) = true := by simpa using hle
              clear hle
              go_wp2_with fail
              refine (awake_any _).mono ?_
              rintro e wz ⟨rfl, hb⟩
              have HBZ := Lib.hid (HB3.out.b.trans (hb.mono HB3.out.b.size))
              clear hb
              go_wp2
              go_ret
              exact ⟨rfl, HBZ.out⟩
          · have t1 : (o == 1) = false := by rw [beq_eq_false_iff_ne]; exact h1
            clear h1
            obtain ⟨n1, hn1⟩ : ∃ n1 : Int, n1 = (a : Int) + 1 := ⟨_, rfl⟩
            obtain ⟨n2, hn2⟩ : ∃ n2 : Int, n2 = (a : Int) - 1 := ⟨_, rfl⟩
            obtain ⟨n3, hn3⟩ : ∃ n3 : Int, n3 = (a : Int) + (wd : Int) := ⟨_, rfl⟩
            obtain ⟨n4, hn4⟩ : ∃ n4 : Int, n4 = (a : Int) - (wd : Int) := ⟨_, rfl⟩
            have ew1 : IntKind.i64.wrap ((a : Int) + 1) = n1 := by rw [hn1]; exact IntWalk.i64_in _ (by omega)
            have ew2 : IntKind.i64.wrap ((a : Int) - 1) = n2 := by rw [hn2]; exact IntWalk.i64_in _ (by omega)
            have ew3 : IntKind.i64.wrap ((a : Int) + (wd : Int)) = n3 := by rw [hn3]; exact IntWalk.i64_in _ (by omega)
            have ew4 : IntKind.i64.wrap ((a : Int) - (wd : Int)) = n4 := by rw [hn4]; exact IntWalk.i64_in _ (by omega)
            have HNN : Hid (-100 ≤ n1 ∧ n1 ≤ 100 ∧ -100 ≤ n2 ∧ n2 ≤ 100 ∧ -100 ≤ n3 ∧ n3 ≤ 100 ∧ -100 ≤ n4 ∧ n4 ≤ 100) := Lib.hid (by omega)
            clear hn1 hn2 hn3 hn4
            go_upto_region 31 with (fail)
            clear d1 t1 c1 c2 c3
            have HM6 := Lib.hid (HA.out.below (Below.refl _ wr).drew)
            have hC : (fun W => W.cell? ⟨q, 0, none⟩ = some (.int .i64 wd)) wr.drew := (HM6.out.me.box4 (q := q) (t := 44) (List.mem_singleton.2 rfl)).1
            have hCC := Lib.hid hC
            clear c0 HA
            generalize hW0 : wr.drew = w6 at HM6 hC hCC
            refine Lim.regC' (fun W => W.cell? ⟨q, 0, none⟩ = some (.int .i64 wd)) [] #[false, false, false, false, false, false, false, false, false, false, false, false, false, false, false, false, false, false] (by kernel_rfl) rfl ?_
            rw [hW0]; clear hW0
            refine Lim.stepR 0 (fun _ => trivial) rfl (by kernel_rfl) (fun _ _ _ _ h => h) hC rfl ?_; apply Exists.intro; refine ⟨?_, ?_⟩
            · rintro w r1; go_simp; try with_reducible rfl
            simp only [Act.put, List.setIfInBounds_toArray, List.set_cons_succ, List.set_cons_zero]
            refine Lim.stepR 1 (fun _ => trivial) rfl (by kernel_rfl) (fun _ _ _ _ h => h) hC rfl ?_; apply Exists.intro; refine ⟨?_, ?_⟩
            · rintro w r1; go_simp; try with_reducible rfl
            simp only [Act.put, List.setIfInBounds_toArray, List.set_cons_succ, List.set_cons_zero]
            refine Lim.stepR 2 (fun _ => trivial) rfl (by kernel_rfl) (fun _ _ _ _ h => h) hC rfl ?_; apply Exists.intro; refine ⟨?_, ?_⟩
            · rintro w r1; go_simp; try with_reducible rfl
            simp only [Act.put, List.setIfInBounds_toArray, List.set_cons_succ, List.set_cons_zero]
            refine Lim.stepR 3 (fun _ => trivial) rfl (by kernel_rfl) (fun _ _ _ _ h => h) hC rfl ?_; apply Exists.intro; refine ⟨?_, ?_⟩
            · rintro w r1; go_simp; try with_reducible rfl
            simp only [Act.put, List.setIfInBounds_toArray, List.set_cons_succ, List.set_cons_zero]
            refine Lim.stepR 4 (fun _ => trivial) rfl (by kernel_rfl) (fun _ _ _ _ h => h) hC rfl ?_; apply Exists.intro; refine ⟨?_, ?_⟩
            · rintro w r1; go_simp; try with_reducible rfl
            simp only [Act.put, List.setIfInBounds_toArray, List.set_cons_succ, List.set_cons_zero]
            refine Lim.stepR 5 (fun _ => trivial) rfl (by kernel_rfl) (fun _ _ _ _ h => h) hC rfl ?_; apply Exists.intro; refine ⟨?_, ?_⟩
            · rintro w r1; go_simp; try with_reducible rfl
            simp only [Act.put, List.setIfInBounds_toArray, List.set_cons_succ, List.set_cons_zero]
            refine Lim.stepR 6 (fun _ => trivial) rfl (by kernel_rfl) (fun _ _ _ _ h => h) hC rfl ?_; apply Exists.intro; refine ⟨?_, ?_⟩
            · rintro w r1; go_simp; try with_reducible rfl
            simp only [Act.put, List.setIfInBounds_toArray, List.set_cons_succ, List.set_cons_zero]
            refine Lim.stepR 7 (fun _ => trivial) rfl (by kernel_rfl) (fun _ _ _ _ h => h) hC rfl ?_; apply Exists.intro; refine ⟨?_, ?_⟩
            · rintro w r1; go_simp; try with_reducible rfl
            simp only [Act.put, List.setIfInBounds_toArray, List.set_cons_succ, List.set_cons_zero]
            refine Lim.stepR 8 (fun _ => trivial) rfl (by kernel_rfl) (fun _ _ _ _ h => h) hC rfl ?_; apply Exists.intro; refine ⟨?_, ?_⟩
            · rintro w r1; go_simp; try with_reducible rfl
            simp only [Act.put, List.setIfInBounds_toArray, List.set_cons_succ, List.set_cons_zero]
            refine Lim.stepR 9 (fun _ => trivial) rfl (by kernel_rfl) (fun _ _ _ _ h => h) hC rfl ?_; apply Exists.intro; refine ⟨?_, ?_⟩
            · rintro w r1; go_simp; try with_reducible rfl
            simp only [Act.put, List.setIfInBounds_toArray, List.set_cons_succ, List.set_cons_zero]
            refine Lim.stepR 10 (fun _ => trivial) rfl (by kernel_rfl) (fun _ _ _ _ h => h) hC rfl ?_; apply Exists.intro; refine ⟨?_, ?_⟩
            · rintro w r1; go_simp; try with_reducible rfl
            simp only [Act.put, List.setIfInBounds_toArray, List.set_cons_succ, List.set_cons_zero]
            refine Lim.stepR 11 (fun _ => trivial) rfl (by kernel_rfl) (fun _ _ _ _ h => h) hC rfl ?_; apply Exists.intro; refine ⟨?_, ?_⟩
            · rintro w r1; go_simp; try with_reducible rfl
            simp only [Act.put, List.setIfInBounds_toArray, List.set_cons_succ, List.set_cons_zero]
            refine Lim.stepR 13 (fun _ => trivial) rfl (by kernel_rfl) (fun _ _ _ _ h => h) hC rfl ?_; apply Exists.intro; refine ⟨?_, ?_⟩
            · rintro w r1; go_simp; try with_reducible rfl
            simp only [Act.put, List.setIfInBounds_toArray, List.set_cons_succ, List.set_cons_zero]
            clear hC ew1 ew2 ew3 ew4
            refine Lim.parC [12, 14, 15, 16, 17] (fun done av W => ∃ zz1 zz2 zz3 zz4 zz5, av = { tmps := #[.slice xa l.length xc, .slice ya l2.length yc, undef, undef, u4, .pointer (some ⟨w.heap.size, 0, none⟩), .pointer (some ⟨dq, 0, none⟩), .pointer (some ⟨q, 0, none⟩), .slice (some ⟨g4, 0, none⟩) n k4, .int .i64 best, .int .i64 0, .int .i64 best, .int .i64 0, .slice wa ps.length wc, .int .i64 0, .int .i64 best, .int .i64 0, u17, u18, u19, u20, u21, u22, .int .i64 a, u24, zz5, undef, .slice xa l.length xc, .pointer (some ⟨w.heap.size, 0, none⟩), .slice ya l2.length yc, .pointer (some ⟨dq, 0, none⟩), .pointer (some ⟨w.heap.size, 0, none⟩), .agg #[.int .i64 wd, .slice (some ⟨g1, 0, none⟩) n k1, .slice (some ⟨g2, 0, none⟩) n k2, .slice (some ⟨g3, 0, none⟩) n k3], .tuple #[.slice (some ⟨g4, 0, none⟩) n k4, .int .i64 best, .int .i64 0], .agg #[.int .i64 wd, .slice (some ⟨g1, 0, none⟩) n k1, .slice (some ⟨g2, 0, none⟩) n k2, .slice (some ⟨g3, 0, none⟩) n k3], .tuple #[.slice (some ⟨g4, 0, none⟩) n k4, .int .i64 best, .int .i64 0], .slice (some ⟨g4, 0, none⟩) n k4, .int .i64 best, .int .i64 0, .tuple #[.int .i64 best, .int .i64 0], .agg #[.int .i64 wd, .slice (some ⟨g1, 0, none⟩) n k1, .slice (some ⟨g2, 0, none⟩) n k2, .slice (some ⟨g3, 0, none⟩) n k3], .slice (some ⟨g4, 0, none⟩) n k4, .tuple #[.int .i64 best, .int .i64 0], .int .i64 best, .int .i64 0, .tuple #[.slice wa ps.length wc, .int .i64 0], .agg #[.int .i64 wd, .slice (some ⟨g1, 0, none⟩) n k1, .slice (some ⟨g2, 0, none⟩) n k2, .slice (some ⟨g3, 0, none⟩) n k3], .tuple #[.slice wa ps.length wc, .int .i64 0], .slice wa ps.length wc, .int .i64 0, .tuple #[.int .i64 best, .int .i64 0], .agg #[.int .i64 wd, .slice (some ⟨g1, 0, none⟩) n k1, .slice (some ⟨g2, 0, none⟩) n k2, .slice (some ⟨g3, 0, none⟩) n k3], .slice wa ps.length wc, .tuple #[.int .i64 best, .int .i64 0], .int .i64 best, .int .i64 0, .int .i64 0, .bool false, .bool false, .int .i64 0, .bool false, .bool false, .bool false, .int .i64 0, .bool false, .bool false, .bool false, .int .i64 0, .bool false, .bool false, .bool false, .int .i64 best, .int .i64 best, .bool false, .bool false, .bool false, .int .i64 best, .int .i64 best, .bool false, .bool false, .bool false, .slice wa ps.length wc, .int .i64 ps.length, .bool false, .bool false, .int .i64 t, .bool false, u87, u88, u89, u90, u91, u92, u93, u94, u95, u96, u97, u98, u99, u100, u101, u102, u103, u104, u105, u106, u107, u108, u109, u110, u111, u112, u113, u114, u115, u116, u117, u118, u119, u120, u121, u122, u123, u124, u125, u126, u127, u128, u129, u130, u131, u132, u133, u134, u135, u136, .slice (some ⟨p0, 0, none⟩) 1 1, .int .i64 k, .bool true, .pointer (some ⟨q, 1, none⟩), .slice (some ⟨g1, 0, none⟩) n k1, .int .i64 a, .pointer (some ⟨g1, a, none⟩), .int .i64 o, .bool false, .int .i64 a, .int .i64 n1, .int .i64 a, .int .i64 n2, .int .i64 a, .pointer (some ⟨q, 0, none⟩), .int .i64 wd, .int .i64 n3, .int .i64 a, .pointer (some ⟨q, 0, none⟩), .int .i64 wd, .int .i64 n4, zz1, .pointer (some ⟨dq, 0, none⟩), zz2, zz3, zz4, u163, u164, u165, u166, u167, u168, u169, u170, u171, u172, u173, u174, u175, u176, u177, u178, u179, u180, u181, u182, u183, u184, u185, u186, u187, u188, u189, u190, u191, u192, u193, u194, u195, u196, u197, u198, u199, u200, u201, u202, u203, u204, u205, u206, u207, u208, u209, u210, u211, u212, u213, u214, u215, u216, u217, u218, undef, undef, undef, undef, undef, undef, undef, undef, undef, undef, undef, undef, undef, undef, undef, undef, undef, undef, undef, undef, undef, undef, undef, undef, undef], defers := [] } ∧ Nx w6 dq (100 * t + k) n1 n2 n3 n4 done zz1 zz2 zz3 zz4 zz5 W) (fun _ => trivial) (by kernel_rfl) rfl rfl ?hC ?step ?fin ⟨_, _, _, _, _, rfl, Nx.begin HM6.out.dk⟩
            case hC =>
              rintro done av W ⟨zz1, zz2, zz3, zz4, zz5, rfl, HN⟩
              have hne : q ≠ dq := by have h1 := (HM6.out.me.x _ (List.mem_singleton.2 rfl)).1; omega
              exact (World.cell?_of_block (HN.g.block q (HM6.out.me.lt (List.mem_singleton.2 rfl)) (fun e => hne (by cases e; rfl)))).trans hCC.out
            case step =>
              intro i o hi ho done av W hd hdep hS K hK
              obtain ⟨zz1, zz2, zz3, zz4, zz5, rfl, HN⟩ := hS
              have hdw : dq < w6.heap.size := HM6.out.dk.lt
              simp only [List.mem_cons, List.not_mem_nil, or_false] at hi
              rcases hi with rfl | rfl | rfl | rfl | rfl
              · cases ho
                clear hdep
                go_simp
                refine hK _ _ ?_
                exact ⟨_, _, _, _, _, rfl, HN.st12 hd⟩
              · cases ho
                have hdk : Deck W dq (100 * t + k) := by have := HN.dk; rw [hd] at this; simpa using this
                clear hdep
                go_simp
                refine ⟨rfl, (callsIn_wide.2 (deck_draw (n := 4) hdk (by have := HT6.out; omega))).mono ?_⟩
                rintro e W' ⟨r, rfl, hr, hdl⟩
                obtain ⟨r', rfl⟩ : ∃ k : Nat, r = k := ⟨r.toNat, by omega⟩
                refine hK _ _ ?_
                exact ⟨_, _, _, _, _, rfl, HN.st14 hd hdw (by have := hr.2.2; omega) hdl⟩
              · cases ho
                have h12 := hdep 12 (by kernel_rfl) (by simp)
                have h14 := hdep 14 (by kernel_rfl) (by simp)
                clear hdep
                obtain ⟨p, rfl, hp1, hp2⟩ := HN.d12 h12
                obtain ⟨r, rfl, hr⟩ := HN.d14 h14
                have hr1 : (r : Int) < 4 := by omega
                go_simp
                refine hK _ _ ?_
                exact ⟨_, _, _, _, _, rfl, HN.st15 hr hp1 hp2⟩
              · cases ho
                have h15 := hdep 15 (by kernel_rfl) (by simp)
                clear hdep
                obtain ⟨p, r, hr, rfl, hp1, hp2⟩ := HN.d15 h15
                obtain ⟨v, hv, hv4⟩ := four_cells hp2 hr
                go_simp
                refine hK _ _ ?_
                exact ⟨_, _, _, _, _, rfl, HN.st16 hd hv4⟩
              · cases ho
                have h16 := hdep 16 (by kernel_rfl) (by simp)
                clear hdep
                obtain ⟨v, rfl, hv⟩ := HN.d16 h16
                go_simp
                refine hK _ _ ?_
                exact ⟨_, _, _, _, _, rfl, HN.st17 h16⟩
            case fin =>
              rintro done ax w7 hall ⟨zz1, zz2, zz3, zz4, zz5, rfl, HX⟩
              obtain ⟨v, rfl, hv⟩ := HX.d16 (hall 16 (by simp))
              obtain rfl := (HX.d17 (hall 17 (by simp))).1
              obtain ⟨p, rfl, -, -⟩ := HX.d12 (hall 12 (by simp))
              obtain ⟨r, rfl, -⟩ := HX.d14 (hall 14 (by simp))
              obtain ⟨p', r', -, rfl, -, -⟩ := HX.d15 (hall 15 (by simp))
              have hdk : Deck w7 dq (100 * t + (k + 1)) := by have := HX.dk; rw [hall 14 (by simp)] at this; simpa [Nat.add_assoc] using this
              have HM7 := Lib.hid (HM6.out.chance HX.g hdk)
              have HV : Hid (-100 ≤ v ∧ v ≤ 100) := Lib.hid (by have h := HNN.out; rcases hv with rfl | rfl | rfl | rfl <;> omega)
              clear hall HX hdk hv HM6 hCC HNN
              obtain ⟨c0, c1, c2, c3⟩ := HM7.out.me.box4 (q := q) (t := 44) (List.mem_singleton.2 rfl)
              have HAN := Lib.hid ha
              have hnI : (n : Int) ≤ 49 := by omega
              clear c2 c3
              by_cases hv0 : v < 0
              · have z0 : decide (v < 0) = true := by simpa using hv0
                clear hv0
                go_wp2_with fail
                go_quiet (fail)
                go_wp2_with fail
                go_roundw
                case rel => exact ⟨k + 1, a, P, by omega, by go_num, rfl, HAN.out, Lib.hid ⟨HM7.out.below (below_drewN (Below.refl _ _) _), by have := HPP.out.1; omega, HPP.out.2⟩⟩
                case measure => simp [intOf]; omega
              · have z0 : decide (v < 0) = false := by simpa using hv0
                by_cases hv1 : (n : Int) ≤ v
                · have z1 : decide ((n : Int) ≤ v) = true := by simpa using hv1
                  clear hv0 hv1
                  go_wp2_with fail
                  go_quiet (fail)
                  go_wp2_with fail
                  go_roundw
                  case rel => exact ⟨k + 1, a, P, by omega, by go_num, rfl, HAN.out, Lib.hid ⟨HM7.out.below (below_drewN (Below.refl _ _) _), by have := HPP.out.1; omega, HPP.out.2⟩⟩
                  case measure => simp [intOf]; omega
                · have HNV : Hid (v < n) := Lib.hid (by omega)
                  obtain ⟨nv, rfl⟩ : ∃ k : Nat, v = k := ⟨v.toNat, by omega⟩
                  have z1 : decide (n ≤ nv) = false := by simp; omega
                  obtain ⟨m1, hm1⟩ : ∃ m : Nat, m = nv % wd := ⟨_, rfl⟩
                  obtain ⟨m2, hm2⟩ : ∃ m : Nat, m = a % wd := ⟨_, rfl⟩
                  have e1 : (nv : Int).tmod (wd : Int) = (m1 : Int) := by rw [hm1]; exact (Int.ofNat_tmod nv wd).symm
                  have e2 : (a : Int).tmod (wd : Int) = (m2 : Int) := by rw [hm2]; exact (Int.ofNat_tmod a wd).symm
                  have hm3 : m1 < wd ∧ m2 < wd := ⟨by rw [hm1]; exact Nat.mod_lt _ (by omega), by rw [hm2]; exact Nat.mod_lt _ (by omega)⟩
                  obtain ⟨s1, hs1⟩ : ∃ s : Int, s = (m1 : Int) - (m2 : Int) := ⟨_, rfl⟩
                  obtain ⟨s2, hs2⟩ : ∃ s : Int, s = (m2 : Int) - (m1 : Int) := ⟨_, rfl⟩
                  obtain ⟨s3, hs3⟩ : ∃ s : Int, s = (nv : Int) - (a : Int) := ⟨_, rfl⟩
                  obtain ⟨s4, hs4⟩ : ∃ s : Int, s = (a : Int) - (nv : Int) := ⟨_, rfl⟩
                  have f1 : IntKind.i64.wrap ((m1 : Int) - (m2 : Int)) = s1 := by rw [hs1]; exact IntWalk.i64_in _ (by omega)
                  have f2 : IntKind.i64.wrap ((m2 : Int) - (m1 : Int)) = s2 := by rw [hs2]; exact IntWalk.i64_in _ (by omega)
                  have f3 : IntKind.i64.wrap ((nv : Int) - (a : Int)) = s3 := by rw [hs3]; exact IntWalk.i64_in _ (by have := HV.out; omega)
                  have f4 : IntKind.i64.wrap ((a : Int) - (nv : Int)) = s4 := by rw [hs4]; exact IntWalk.i64_in _ (by have := HV.out; omega)
                  clear hm1 hm2 hm3 hs1 hs2 hs3 hs4 hv0 hv1
                  by_cases g1 : 1 < s1
                  · have z2 : decide (1 < s1) = true := by simpa using g1
                    clear g1
                    go_wp2_with fail
                    go_quiet (fail)
                    go_wp2_with fail
                    go_roundw
                    case rel => exact ⟨k + 1, a, P, by omega, by go_num, rfl, HAN.out, Lib.hid ⟨HM7.out.below (below_drewN (Below.refl _ _) _), by have := HPP.out.1; omega, HPP.out.2⟩⟩
                    case measure => simp [intOf]; omega
                  · have z2 : decide (1 < s1) = false := by simpa using g1
                    clear g1
                    by_cases g2 : 1 < s2
                    · have z3 : decide (1 < s2) = true := by simpa using g2
                      clear g2
                      go_wp2_with fail
                      go_quiet (fail)
                      go_wp2_with fail
                      go_roundw
                      case rel => exact ⟨k + 1, a, P, by omega, by go_num, rfl, HAN.out, Lib.hid ⟨HM7.out.below (below_drewN (Below.refl _ _) _), by have := HPP.out.1; omega, HPP.out.2⟩⟩
                      case measure => simp [intOf]; omega
                    · have z3 : decide (1 < s2) = false := by simpa using g2
                      clear g2
                      by_cases g3 : wd = 1
                      · have z4 : ((wd : Int) == 1) = true := by rw [beq_iff_eq]; omega
                        clear g3
                        by_cases g4 : 1 < s3
                        · have z5 : decide (1 < s3) = true := by simpa using g4
                          clear g4
                          go_wp2_with fail
                          go_quiet (fail)
                          go_wp2_with fail
                          go_roundw
                          case rel => exact ⟨k + 1, a, P, by omega, by go_num, rfl, HAN.out, Lib.hid ⟨HM7.out.below (below_drewN (Below.refl _ _) _), by have := HPP.out.1; omega, HPP.out.2⟩⟩
                          case measure => simp [intOf]; omega
                        · have z5 : decide (1 < s3) = false := by simpa using g4
                          clear g4
                          by_cases g5 : 1 < s4
                          · have z6 : decide (1 < s4) = true := by simpa using g5
                            clear g5
                            go_wp2_with fail
                            go_quiet (fail)
                            go_wp2_with fail
                            go_roundw
                            case rel => exact ⟨k + 1, a, P, by omega, by go_num, rfl, HAN.out, Lib.hid ⟨HM7.out.below (below_drewN (Below.refl _ _) _), by have := HPP.out.1; omega, HPP.out.2⟩⟩
                            case measure => simp [intOf]; omega
                          · have z6 : decide (1 < s4) = false := by simpa using g5
                            clear g5
                            go_wp2_with fail
                            go_quiet (fail)
                            have HM8 : Hid (DvM w dq (100 * t + (k + 1)) (rwI (.slice (some ⟨g4, 0, none⟩) n k4) n (ownL M0 n) :: [rwI (.slice (some ⟨g1, 0, none⟩) n k1) n os, rwI (.slice (some ⟨g2, 0, none⟩) n k2) n es, rwI (.slice (some ⟨g3, 0, none⟩) n k3) n ss]) [rwI u24 P.length P] [(q, .cells #[.int .i64 wd, .slice (some ⟨g1, 0, none⟩) n k1, .slice (some ⟨g2, 0, none⟩) n k2, .slice (some ⟨g3, 0, none⟩) n k3] 44 (0, 0))] (w7.drewN nq)) := Lib.hid (HM7.out.below (below_drewN (Below.refl _ _) _))
                            clear HM7 c0 c1 z0 z1 z2 z3 z4 e1 e2 f1 f2 f3 f4
                            generalize w7.drewN nq = w8 at HM8 ⊢
                            obtain ⟨i0, hi0, hz0, hz1, hz2⟩ := info_parts Try.infoInt
                            have HI := Lib.hid (And.intro hi0 (And.intro hz0 (And.intro hz1 hz2)))
                            clear hi0 hz0 hz1 hz2
                            have HMA := Lib.hid (HM8.out.below ((Below.refl _ w8).alloc (Nat.le_refl _) (.cells #[.int .i64 (nv : Int)] 3)))
                            clear HM8
                            have HOW : Hid ((w8.alloc (.cells #[.int .i64 (nv : Int)] 3)).ownsRow (dq + 1) 3 1 u24 P.length (ints P)) := Lib.hid (HMA.out.me.q (rwI u24 P.length P) (List.mem_singleton.2 rfl))
                            have HPL : Hid (P.length ≤ 1000) := Lib.hid (by have h1 := HPP.out.1; have h2 := HT6.out.2; omega)
                            go_wp2_with (at_builtin; refine wpList_append_own_at _ rfl _ _ 22 rfl (dq + 1) 3 i0 (.int .i64 0) 1 8 Try.underlying22 HI.out.1 HI.out.2.1 HI.out.2.2.1 HI.out.2.2.2 rfl (by decide) _ _ _ rfl HOW.out ⟨w8.heap.size, 0, none⟩ 1 1 [.int .i64 (nv : Int)] rfl rfl (cell_one_new _ _ _) (by simp [Value.oneCell']) (by have := HPL.out; unfold maxLen; omega) (by have := HPL.out; omega) HMA.out.me.o ?_; intro v' w11 hown11 hgrow _ hat; have H3 := Lib.hid (HMA.out.push (x := (nv : Int)) hown11 hgrow hat); clear hown11 hgrow hat)
                            go_roundw
                            case rel => exact ⟨k + 1, nv, P ++ [(nv : Int)], by omega, by go_num, rfl, by have := HNV.out; omega, Lib.hid ⟨by rw [List.length_append]; exact H3.out, by rw [List.length_append]; have := HPP.out.1; simp; omega, fun x hx => by
                              rcases List.mem_append.1 hx with hx | hx
                              · exact HPP.out.2 x hx
                              · rw [List.mem_singleton.1 hx]; have := HNV.out; omega⟩⟩
                            case measure => simp [intOf]; omega
                      · have z4 : ((wd : Int) == 1) = false := by rw [beq_eq_false_iff_ne]; omega
                        clear g3
                        go_wp2_with fail
                        go_quiet (fail)
                        have HM8 : Hid (DvM w dq (100 * t + (k + 1)) (rwI (.slice (some ⟨g4, 0, none⟩) n k4) n (ownL M0 n) :: [rwI (.slice (some ⟨g1, 0, none⟩) n k1) n os, rwI (.slice (some ⟨g2, 0, none⟩) n k2) n es, rwI (.slice (some ⟨g3, 0, none⟩) n k3) n ss]) [rwI u24 P.length P] [(q, .cells #[.int .i64 wd, .slice (some ⟨g1, 0, none⟩) n k1, .slice (some ⟨g2, 0, none⟩) n k2, .slice (some ⟨g3, 0, none⟩) n k3] 44 (0, 0))] (w7.drewN nq)) := Lib.hid (HM7.out.below (below_drewN (Below.refl _ _) _))
                        clear HM7 c0 c1 z0 z1 z2 z3 z4 e1 e2 f1 f2 f3 f4
                        generalize w7.drewN nq = w8 at HM8 ⊢
                        obtain ⟨i0, hi0, hz0, hz1, hz2⟩ := info_parts Try.infoInt
                        have HI := Lib.hid (And.intro hi0 (And.intro hz0 (And.intro hz1 hz2)))
                        clear hi0 hz0 hz1 hz2
                        have HMA := Lib.hid (HM8.out.below ((Below.refl _ w8).alloc (Nat.le_refl _) (.cells #[.int .i64 (nv : Int)] 3)))
                        clear HM8
                        have HOW : Hid ((w8.alloc (.cells #[.int .i64 (nv : Int)] 3)).ownsRow (dq + 1) 3 1 u24 P.length (ints P)) := Lib.hid (HMA.out.me.q (rwI u24 P.length P) (List.mem_singleton.2 rfl))
                        have HPL : Hid (P.length ≤ 1000) := Lib.hid (by have h1 := HPP.out.1; have h2 := HT6.out.2; omega)
                        go_wp2_with (at_builtin; refine wpList_append_own_at _ rfl _ _ 22 rfl (dq + 1) 3 i0 (.int .i64 0) 1 8 Try.underlying22 HI.out.1 HI.out.2.1 HI.out.2.2.1 HI.out.2.2.2 rfl (by decide) _ _ _ rfl HOW.out ⟨w8.heap.size, 0, none⟩ 1 1 [.int .i64 (nv : Int)] rfl rfl (cell_one_new _ _ _) (by simp [Value.oneCell']) (by have := HPL.out; unfold maxLen; omega) (by have := HPL.out; omega) HMA.out.me.o ?_; intro v' w11 hown11 hgrow _ hat; have H3 := Lib.hid (HMA.out.push (x := (nv : Int)) hown11 hgrow hat); clear hown11 hgrow hat)
                        go_roundw
                        case rel => exact ⟨k + 1, nv, P ++ [(nv : Int)], by omega, by go_num, rfl, by have := HNV.out; omega, Lib.hid ⟨by rw [List.length_append]; exact H3.out, by rw [List.length_append]; have := HPP.out.1; simp; omega, fun x hx => by
                          rcases List.mem_append.1 hx with hx | hx
                          · exact HPP.out.2 x hx
                          · rw [List.mem_singleton.1 hx]; have := HNV.out; omega⟩⟩
                        case measure => simp [intOf]; omega
        · have h40' : ¬ (k : Int) < 40 := by omega
          go_upto_region 36 with (fail)
          obtain ⟨pa, pc, epv⟩ : ∃ a cap, u24 = .slice a P.length cap := row_form (r := rwI u24 P.length P) (HA.out.me.q _ (List.mem_singleton.2 rfl))
          subst epv
          have HB0 := Lib.hid (HA.out.below (Below.refl _ wr).drew)
          have hC : (fun W => W.cell? ⟨q, 0, none⟩ = some (.int .i64 wd) ∧ W.cell? ⟨q, 1, none⟩ = some (.slice (some ⟨g1, 0, none⟩) n k1) ∧ W.cell? ⟨q, 2, none⟩ = some (.slice (some ⟨g2, 0, none⟩) n k2) ∧ W.cell? ⟨q, 3, none⟩ = some (.slice (some ⟨g3, 0, none⟩) n k3)) wr.drew := HB0.out.me.box4 (q := q) (t := 44) (List.mem_singleton.2 rfl)
          clear HA
          generalize hW0 : wr.drew = w6 at HB0 hC
          refine Lim.regC' (fun W => W.cell? ⟨q, 0, none⟩ = some (.int .i64 wd) ∧ W.cell? ⟨q, 1, none⟩ = some (.slice (some ⟨g1, 0, none⟩) n k1) ∧ W.cell? ⟨q, 2, none⟩ = some (.slice (some ⟨g2, 0, none⟩) n k2) ∧ W.cell? ⟨q, 3, none⟩ = some (.slice (some ⟨g3, 0, none⟩) n k3)) [] #[false, false, false, false, false, false, false, false, false, false, false, false, false] (by kernel_rfl) rfl ?_
          rw [hW0]; clear hW0
          refine Lim.stepR 0 (fun _ => trivial) rfl (by kernel_rfl) (fun _ _ _ _ h => h) hC rfl ?_; apply Exists.intro; refine ⟨?_, ?_⟩
          · rintro w ⟨r0, r1, r2, r3⟩; go_simp; try with_reducible rfl
          simp only [Act.put, List.setIfInBounds_toArray, List.set_cons_succ, List.set_cons_zero]
          refine Lim.stepR 1 (fun _ => trivial) rfl (by kernel_rfl) (fun _ _ _ _ h => h) hC rfl ?_; apply Exists.intro; refine ⟨?_, ?_⟩
          · rintro w ⟨r0, r1, r2, r3⟩; go_simp; try with_reducible rfl
          simp only [Act.put, List.setIfInBounds_toArray, List.set_cons_succ, List.set_cons_zero]
          refine Lim.stepR 2 (fun _ => trivial) rfl (by kernel_rfl) (fun _ _ _ _ h => h) hC rfl ?_; apply Exists.intro; refine ⟨?_, ?_⟩
          · rintro w ⟨r0, r1, r2, r3⟩; go_simp; try with_reducible rfl
          simp only [Act.put, List.setIfInBounds_toArray, List.set_cons_succ, List.set_cons_zero]
          refine Lim.stepE 3 (fun _ => trivial) rfl (by kernel_rfl) rfl (fun K hK => ?_)   -- E call
          go_simp
          refine ⟨rfl, (callsIn_wide.2 (deck_draw (n := 4) HB0.out.dk (by have := HT6.out; omega))).mono ?_⟩
          rintro e W2 ⟨x, rfl, hx, hdl⟩
          have HB1 := Lib.hid (HB0.out.dealt hdl)
          obtain ⟨y, hy⟩ : ∃ y, y = 1 + x := ⟨_, rfl⟩
          have hy4 : 1 ≤ y ∧ y ≤ 4 := by have := hx.2.1; have := hx.2.2 (by omega); omega
          have ewy : IntKind.i64.wrap (1 + x) = y := by rw [← hy]; exact IntWalk.i64_in _ (by omega)
          have HY := Lib.hid hy4
          have hC2 : (fun W => W.cell? ⟨q, 0, none⟩ = some (.int .i64 wd) ∧ W.cell? ⟨q, 1, none⟩ = some (.slice (some ⟨g1, 0, none⟩) n k1) ∧ W.cell? ⟨q, 2, none⟩ = some (.slice (some ⟨g2, 0, none⟩) n k2) ∧ W.cell? ⟨q, 3, none⟩ = some (.slice (some ⟨g3, 0, none⟩) n k3)) W2 := HB1.out.me.box4 (q := q) (t := 44) (List.mem_singleton.2 rfl)
          refine hK _ _ hC2 ?_
          clear hx hdl hy hy4 hC HB0
          simp only [Act.put, List.setIfInBounds_toArray, List.set_cons_succ, List.set_cons_zero]
          refine Lim.stepR 4 (fun _ => trivial) rfl (by kernel_rfl) (fun _ _ _ _ h => h) hC2 rfl ?_; apply Exists.intro; refine ⟨?_, ?_⟩
          · rintro w ⟨r0, r1, r2, r3⟩; go_simp; try with_reducible rfl
          simp only [Act.put, List.setIfInBounds_toArray, List.set_cons_succ, List.set_cons_zero]
          refine Lim.stepR 5 (fun _ => trivial) rfl (by kernel_rfl) (fun _ _ _ _ h => h) hC2 rfl ?_; apply Exists.intro; refine ⟨?_, ?_⟩
          · rintro w ⟨r0, r1, r2, r3⟩; go_simp; try with_reducible rfl
          simp only [Act.put, List.setIfInBounds_toArray, List.set_cons_succ, List.set_cons_zero]
          refine Lim.stepE 6 (fun _ => trivial) rfl (by kernel_rfl) rfl (fun K hK => ?_)   -- E buildSlice
          go_simp
          have HB2 := Lib.hid (HB1.out.lay (.cells #[.slice pa P.length pc, .int .i64 y] 83))
          have HW1 : Hid (WkR (W2.alloc (.cells #[.slice pa P.length pc, .int .i64 y] 83)).heap.size (W2.alloc (.cells #[.slice pa P.length pc, .int .i64 y] 83)) (.slice (some ⟨W2.heap.size, 0, none⟩) 1 1) [(P, y)]) := Lib.hid (wkR_one (HB1.out.me.q (rwI (.slice pa P.length pc) P.length P) (List.mem_singleton.2 rfl)) y)
          have hC3 : (fun W => W.cell? ⟨q, 0, none⟩ = some (.int .i64 wd) ∧ W.cell? ⟨q, 1, none⟩ = some (.slice (some ⟨g1, 0, none⟩) n k1) ∧ W.cell? ⟨q, 2, none⟩ = some (.slice (some ⟨g2, 0, none⟩) n k2) ∧ W.cell? ⟨q, 3, none⟩ = some (.slice (some ⟨g3, 0, none⟩) n k3)) (W2.alloc (.cells #[.slice pa P.length pc, .int .i64 y] 83)) := HB2.out.me.box4 (q := q) (t := 44) (List.mem_cons_of_mem _ (List.mem_singleton.2 rfl))
          refine hK _ _ hC3 ?_
          obtain ⟨p9, hp9⟩ : ∃ p, p = W2.heap.size := ⟨_, rfl⟩
          rw [← hp9] at HB2 HW1 ⊢
          clear hC2 HB1 ewy hp9
          generalize W2.alloc (.cells #[.slice pa P.length pc, .int .i64 y] 83) = W3 at HB2 HW1 hC3 ⊢
          simp only [Act.put, List.setIfInBounds_toArray, List.set_cons_succ, List.set_cons_zero]
          refine Lim.stepE 7 (fun _ => trivial) rfl (by kernel_rfl) rfl (fun K hK => ?_)   -- E call
          go_simp
          refine ⟨rfl, (callsIn_wide.2 (Proves_any (B := W3.heap.size) (wd := wd) (os := os) (es := es) (ss := ss) (ws := [(P, y)]) (w := W3) (by rw [HL.out.1.lo, HL.out.1.le, HL.out.1.ls, ← HN.out]; omega) (by simp) (Nat.le_refl _) (HB2.out.me.rsI (v := .slice (some ⟨g1, 0, none⟩) n k1) (n := n) (.inl (.tail _ (.head _))) (by rw [HL.out.1.lo, HN.out])) (HB2.out.me.rsI (v := .slice (some ⟨g2, 0, none⟩) n k2) (n := n) (.inl (.tail _ (.tail _ (.head _)))) (by rw [HL.out.1.le, HN.out])) (HB2.out.me.rsI (v := .slice (some ⟨g3, 0, none⟩) n k3) (n := n) (.inl (.tail _ (.tail _ (.tail _ (.head _))))) (by rw [HL.out.1.ls, HN.out])) HW1.out (fun x hx => by rw [List.mem_singleton.1 hx]; have h1 := HPP.out.1; have h2 := HT6.out.2; show P.length ≤ 100000; omega))).mono ?_⟩
          rintro e W4 h
          obtain ⟨hb, r, er, rfl, her⟩ := proves_oner HL.out.1 HMIN.out.1 (by have h1 := HPP.out.1; have h2 := HT6.out.2; omega) (by rw [← HN.out]; exact HPP.out.2) (by have := HY.out; omega) h
          have HB3 := Lib.hid (HB2.out.below hb)
          have HER := Lib.hid her
          have hC4 : (fun W => W.cell? ⟨q, 0, none⟩ = some (.int .i64 wd) ∧ W.cell? ⟨q, 1, none⟩ = some (.slice (some ⟨g1, 0, none⟩) n k1) ∧ W.cell? ⟨q, 2, none⟩ = some (.slice (some ⟨g2, 0, none⟩) n k2) ∧ W.cell? ⟨q, 3, none⟩ = some (.slice (some ⟨g3, 0, none⟩) n k3)) W4 := HB3.out.me.box4 (q := q) (t := 44) (List.mem_cons_of_mem _ (List.mem_singleton.2 rfl))
          refine hK _ _ hC4 ?_
          clear hb her h hC3 HB2 HW1
          simp only [Act.put, List.setIfInBounds_toArray, List.set_cons_succ, List.set_cons_zero]
          refine Lim.stepR 8 (fun _ => trivial) rfl (by kernel_rfl) (fun _ _ _ _ h => h) hC4 rfl ?_; apply Exists.intro; refine ⟨?_, ?_⟩
          · rintro w ⟨r0, r1, r2, r3⟩; go_simp; try with_reducible rfl
          simp only [Act.put, List.setIfInBounds_toArray, List.set_cons_succ, List.set_cons_zero]
          refine Lim.stepR 9 (fun _ => trivial) rfl (by kernel_rfl) (fun _ _ _ _ h => h) hC4 rfl ?_; apply Exists.intro; refine ⟨?_, ?_⟩
          · rintro w ⟨r0, r1, r2, r3⟩; go_simp; try with_reducible rfl
          simp only [Act.put, List.setIfInBounds_toArray, List.set_cons_succ, List.set_cons_zero]
          refine Lim.stepR 10 (fun _ => trivial) rfl (by kernel_rfl) (fun _ _ _ _ h => h) hC4 rfl ?_; apply Exists.intro; refine ⟨?_, ?_⟩
          · rintro w ⟨r0, r1, r2, r3⟩; go_simp; try with_reducible rfl
          simp only [Act.put, List.setIfInBounds_toArray, List.set_cons_succ, List.set_cons_zero]
          refine Lim.stepR 11 (fun _ => trivial) rfl (by kernel_rfl) (fun _ _ _ _ h => h) hC4 rfl ?_; apply Exists.intro; refine ⟨?_, ?_⟩
          · rintro w ⟨r0, r1, r2, r3⟩; go_simp; try with_reducible rfl
          simp only [Act.put, List.setIfInBounds_toArray, List.set_cons_succ, List.set_cons_zero]
          refine Lim.stepR 12 (fun _ => trivial) rfl (by kernel_rfl) (fun _ _ _ _ h => h) hC4 rfl ?_; apply Exists.intro; refine ⟨?_, ?_⟩
          · rintro w ⟨r0, r1, r2, r3⟩; go_simp; try with_reducible rfl
          simp only [Act.put, List.setIfInBounds_toArray, List.set_cons_succ, List.set_cons_zero]
          refine Lim.stepD (by kernel_rfl) ?_
          clear hC4
          rcases HER.out with rfl | ⟨rfl, hle⟩
          · go_wp2_with fail
            refine (awake_any _).mono ?_
            rintro e wz ⟨rfl, hb⟩
            have HBZ := Lib.hid (HB3.out.b.trans (hb.mono HB3.out.b.size))
            clear hb
            go_wp2
            go_ret
            exact ⟨rfl, HBZ.out⟩
          · have t4 : decide (r ≤ (best : Int)) = true := by simpa using hle
            clear hle
            go_wp2_with fail
            refine (awake_any _).mono ?_
            rintro e wz ⟨rfl, hb⟩
            have HBZ := Lib.hid (HB3.out.b.trans (hb.mono HB3.out.b.size))
            clear hb
            go_wp2
            go_ret
            exact ⟨rfl, HBZ.out⟩
end Go.Proofs.Ytkjcnkkmhkcddaa
