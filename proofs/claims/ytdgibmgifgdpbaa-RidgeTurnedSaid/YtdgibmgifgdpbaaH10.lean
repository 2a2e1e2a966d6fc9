/-
  Parts of the proof, in the order in which they build: MadeE.
-/
import Derived.Maps.AppendAt
import Derived.Test.YtdgibmgifgdpbaaH9
import Derived.Test.YtdgibmgifgdpbaaH3
set_option linter.unusedVariables false
set_option linter.unusedSimpArgs false
namespace Go.Proofs.Ytdgibmgifgdpbaa
open Go.RowKit Go.Shelf
open Lim

theorem Sep.drop {W : World} {S : Nat} {R R' : Nat → Row} (h : Sep W S R) (e : ∀ i, i < 7 → R' i = R i ∨ ∃ t n, R' i = nilRow t n) : Sep W S R' :=
  ⟨fun i hi => by
    rcases e i hi with e | ⟨t, n, e⟩
    · rw [e]; exact h.own i hi
    · rw [e]; exact nilRow_owned _ _ _ _,
   fun i j hi hj hij k hk => by
    rcases e i hi with e1 | ⟨t, n, e1⟩
    · rw [e1] at hk
      rcases e j hj with e2 | ⟨t, n, e2⟩
      · rw [e2]; exact h.apart i j hi hj hij k hk
      · rw [e2]; intro h; cases h
    · rw [e1] at hk; cases hk⟩
theorem MaS.begin {w : World} {d : Nat} {wd : Int} {c : Nat} {hv sv tv : Value} {k : Nat} {hs : List (Int × Int)} {ss T : List Int} {ps : Nat} {x y z h : Int} {x10 x54 x55 x59 x60 x63 x64 : Value} {W : World} (H : MaS w d wd c hv sv tv k hs ss T (spanRow ps x y) W) :
    M15 w d wd c hv sv tv k hs ss T ps x y z h (fun _ => false) x10 x54 x55 x59 x60 x63 x64 W :=
  ⟨⟨hv, sv, ⟨H.gr, H.dk, H.zz, H.bx, H.sep.ext (fun i hi => by
      match i with
      | 0 => rfl
      | 1 => rfl
      | 2 => rfl
      | 3 => rfl
      | 4 => rfl
      | 5 => rfl
      | 6 => rfl
      | i + 7 => omega), H.lt⟩, fun _ => rfl, fun h => (by cases h), fun _ => rfl, fun h => (by cases h)⟩,
    fun h => (by cases h), fun h => (by cases h), fun h => (by cases h), fun h => (by cases h), fun h => (by cases h), fun h => (by cases h), fun h => (by cases h), fun h => (by cases h), fun h => (by cases h)⟩
theorem M15.fin {w : World} {d : Nat} {wd : Int} {c : Nat} {hv sv tv : Value} {k : Nat} {hs : List (Int × Int)} {ss T : List Int} {ps : Nat} {x y z h : Int} {done : Nat → Bool} {x10 x54 x55 x59 x60 x63 x64 : Value} {W : World} (H : M15 w d wd c hv sv tv k hs ss T ps x y z h done x10 x54 x55 x59 x60 x63 x64 W)
    (h4 : done 4 = true) (h9 : done 9 = true) (h13 : done 13 = true) (h15 : done 15 = true) (h17 : done 17 = true) (h18 : done 18 = true) : MaS w d wd c x55 x60 x10 (k + 1) (hs ++ [(x, y)]) (ss ++ [z]) (T ++ [h]) (nilRow 54 2) W := by
  obtain ⟨u1, u2, hc, -, e1, -, e2⟩ := H.core
  have e1 := e1 h15
  have e2 := e2 h17
  subst e1 e2
  have e3 := (H.d18 h18).2
  subst e3
  refine ⟨hc.gr, hc.dk, hc.zz, hc.bx, hc.sep.drop (fun i hi => ?_), hc.lt⟩
  match i with
  | 0 => left; simp [rows3, rowsD, h4, spans_snoc]
  | 1 => left; simp [rows3, rowsD, h9, ints]
  | 2 => left; simp [rows3, rowsD, h13, ints]
  | 3 => right; exact ⟨_, _, rfl⟩
  | 4 => right; exact ⟨_, _, rfl⟩
  | 5 => right; exact ⟨_, _, rfl⟩
  | 6 => right; exact ⟨_, _, rfl⟩
  | i + 7 => omega

theorem M15.skip {w : World} {d : Nat} {wd : Int} {c : Nat} {hv sv tv : Value} {k : Nat} {hs : List (Int × Int)} {ss T : List Int} {ps : Nat} {x y z h : Int} {done : Nat → Bool} {x10 x54 x55 x59 x60 x63 x64 : Value} {W : World} (H : M15 w d wd c hv sv tv k hs ss T ps x y z h done x10 x54 x55 x59 x60 x63 x64 W)
    {i : Nat} (hi : i = 14 ∨ i = 16) : M15 w d wd c hv sv tv k hs ss T ps x y z h (fun j => if j = i then true else done j) x10 x54 x55 x59 x60 x63 x64 W := by
  obtain ⟨u1, u2, hc, h1, h2, h3, h4⟩ := H.core
  have e : ∀ j, j ≠ 14 → j ≠ 16 → (fun j => if j = i then true else done j) j = done j := fun j h1 h2 => by
    show (if j = i then true else done j) = done j
    rw [if_neg (by omega)]
  have e3 := e 3 (by decide) (by decide)
  have e4 := e 4 (by decide) (by decide)
  have e8 := e 8 (by decide) (by decide)
  have e9 := e 9 (by decide) (by decide)
  have e12 := e 12 (by decide) (by decide)
  have e13 := e 13 (by decide) (by decide)
  have e15 := e 15 (by decide) (by decide)
  have e17 := e 17 (by decide) (by decide)
  have e18 := e 18 (by decide) (by decide)
  generalize (fun j => if j = i then true else done j) = dn at *
  refine ⟨⟨u1, u2, hc.ext (fun j hj => ?_), by rw [e15]; exact h1, by rw [e15]; exact h2, by rw [e17]; exact h3, by rw [e17]; exact h4⟩, by rw [e3]; exact H.s3, by rw [e8]; exact H.s8, by rw [e12]; exact H.s12,
    by rw [e4, e3]; exact H.d4, by rw [e9, e8]; exact H.d9, by rw [e13, e12]; exact H.d13, by rw [e15, e4]; exact H.d15, by rw [e17, e9]; exact H.d17, by rw [e18, e13]; exact H.d18⟩
  match j with
  | 0 => simp [rowsD, e4]
  | 1 => simp [rowsD, e9]
  | 2 => simp [rowsD, e13]
  | 3 => simp [rowsD, e3]
  | 4 => simp [rowsD, e8]
  | 5 => simp [rowsD, e12]
  | 6 => simp [rowsD]
  | j + 7 => omega
/-- the seas while they are set apart: P says which pairs of cells have been looked at -/
structure SeaOk (m N : Nat) (P : Nat → Nat → Prop) (ss : List Int) : Prop where
  len : ss.length = N
  v : ∀ c, c < N → 0 ≤ ss.getD c 0 ∧ ss.getD c 0 ≤ 2
  a : ss.getD 0 0 = 1
  b : ss.getD (N - 1) 0 = 2
  no : ∀ c j, P c j → c < N → j < N → ss.getD c 0 = 2 → ss.getD j 0 = 1 → bes m c j = false
theorem getD_set (l : List Int) (i j : Nat) (v : Int) : (l.set i v).getD j 0 = if i = j ∧ j < l.length then v else l.getD j 0 := by
  rw [List.getD_eq_getElem?_getD, List.getD_eq_getElem?_getD, List.getElem?_set]
  by_cases h : i = j
  · subst h
    by_cases h2 : i < l.length
    · simp [h2]
    · simp [h2]
  · simp [h]
theorem SeaOk.more {m N : Nat} {P P' : Nat → Nat → Prop} {ss : List Int} (h : SeaOk m N P ss) (hp : ∀ c j, P' c j → P c j ∨ (ss.getD c 0 = 2 → ss.getD j 0 = 1 → bes m c j = false)) : SeaOk m N P' ss :=
  ⟨h.len, h.v, h.a, h.b, fun c j hc h1 h2 h3 h4 => (hp c j hc).elim (fun h' => h.no c j h' h1 h2 h3 h4) (fun h' => h' h3 h4)⟩
theorem SeaOk.dry {m N : Nat} {P : Nat → Nat → Prop} {ss : List Int} (h : SeaOk m N P ss) {c0 : Nat} (h0 : c0 ≠ 0) (h1 : c0 ≠ N - 1) : SeaOk m N P (ss.set c0 0) := by
  have g : ∀ j, (ss.set c0 0).getD j 0 = if c0 = j ∧ j < ss.length then 0 else ss.getD j 0 := fun j => getD_set ss c0 j 0
  refine ⟨by rw [List.length_set, h.len], fun c hc => ?_, ?_, ?_, fun c j hp hc hj e1 e2 => ?_⟩
  · rw [g]; split
    · omega
    · exact h.v c hc
  · rw [g, if_neg (by omega)]; exact h.a
  · rw [g, if_neg (by omega)]; exact h.b
  · rw [g] at e1 e2
    split at e1
    · omega
    · split at e2
      · omega
      · exact h.no c j hp hc hj e1 e2
theorem SeaOk.begin {m N : Nat} {ss : List Int} (hN : 2 ≤ N) (hl : ss.length = N) (hv : ∀ c, c < N → 0 ≤ ss.getD c 0 ∧ ss.getD c 0 ≤ 2) : SeaOk m N (fun _ _ => False) ((ss.set 0 1).set (N - 1) 2) := by
  have g : ∀ j, ((ss.set 0 1).set (N - 1) 2).getD j 0 = if N - 1 = j ∧ j < N then 2 else if 0 = j ∧ j < N then 1 else ss.getD j 0 := fun j => by
    rw [getD_set, getD_set, List.length_set, hl]
  refine ⟨by simp [hl], fun c hc => ?_, ?_, ?_, fun _ _ h => h.elim⟩
  · rw [g]; split
    · omega
    · split
      · omega
      · exact hv c hc
  · rw [g, if_neg (by omega), if_pos (by omega)]
  · rw [g, if_pos (by omega)]
theorem bes_ends {m rows : Nat} (hm : 3 ≤ m) (hr : 1 ≤ rows) : bes m (m * rows - 1) 0 = false := by
  have e : (m * rows - 1) % m = m - 1 := by
    have h1 : m * rows - 1 = m * (rows - 1) + (m - 1) := by
      obtain ⟨r, rfl⟩ : ∃ r, rows = r + 1 := ⟨rows - 1, by omega⟩
      rw [Nat.mul_add]; simp; omega
    rw [h1, Nat.mul_add_mod, Nat.mod_eq_of_lt (by omega)]
  unfold bes
  rw [e]
  simp only [Nat.zero_mod, Nat.zero_div]
  obtain ⟨a, ha⟩ : ∃ a, a = (m * rows - 1) / m := ⟨_, rfl⟩
  rw [← ha]
  clear ha e
  apply Bool.eq_false_iff.2
  intro h
  simp at h
  have h1 : (2 : Int) * 2 ≤ ((m - 1 : Nat) : Int) * ((m - 1 : Nat) : Int) := Int.mul_le_mul (by omega) (by omega) (by omega) (by omega)
  have h2 : 0 ≤ (a : Int) * (a : Int) := Int.mul_nonneg (by omega) (by omega)
  omega
theorem Cells3.snoc {k : Nat} {hs : List (Int × Int)} {ss T : List Int} (h : Cells3 k hs ss T) {x y z t : Int} (hx : 0 ≤ x ∧ x ≤ t ∧ t ≤ y ∧ y ≤ 14) (hz : 0 ≤ z ∧ z ≤ 2) : Cells3 (k + 1) (hs ++ [(x, y)]) (ss ++ [z]) (T ++ [t]) := by
  have h1 := h.l1
  have h2 := h.l2
  have h3 := h.l3
  have g1 : ∀ c, c < k + 1 → (hs ++ [(x, y)]).getD c (0, 0) = if c = k then (x, y) else hs.getD c (0, 0) := fun c hc => by
    rw [List.getD_eq_getElem?_getD, List.getD_eq_getElem?_getD]
    by_cases e : c = k
    · subst e; rw [← h1]; simp
    · rw [List.getElem?_append_left (by omega), if_neg e]
  have g2 : ∀ (l : List Int) (v : Int), l.length = k → ∀ c, c < k + 1 → (l ++ [v]).getD c 0 = if c = k then v else l.getD c 0 := fun l v hl c hc => by
    rw [List.getD_eq_getElem?_getD, List.getD_eq_getElem?_getD]
    by_cases e : c = k
    · subst e; rw [← hl]; simp
    · rw [List.getElem?_append_left (by omega), if_neg e]
  refine ⟨by simp [h1], by simp [h2], by simp [h3], fun c hc => ?_, fun c hc => ?_⟩
  · rw [g1 c hc, g2 T t h3 c hc]
    by_cases e : c = k
    · rw [if_pos e, if_pos e]; exact hx
    · rw [if_neg e, if_neg e]; exact h.h c (by omega)
  · rw [g2 ss z h2 c hc]
    by_cases e : c = k
    · rw [if_pos e]; exact hz
    · rw [if_neg e]; exact h.s c (by omega)
theorem MaS.form {w : World} {d : Nat} {wd : Int} {c : Nat} {hv sv tv : Value} {k : Nat} {hs : List (Int × Int)} {ss T : List Int} {u6 : Row} {W : World} (H : MaS w d wd c hv sv tv k hs ss T u6 W) (hk : 0 < k) : ∃ sb cap, sv = .slice (some ⟨sb, 0, none⟩) k cap :=
  by
  rcases (H.sep.own 1 (by omega)).2 with ⟨h1, h2⟩ | ⟨g, cap, cur, h1, -⟩
  · have := h2
    simp [rows3] at this
    omega
  · exact ⟨g, cap, h1⟩
theorem MaS.setS {w : World} {d : Nat} {wd : Int} {c : Nat} {hv tv : Value} {k sb cap : Nat} {hs : List (Int × Int)} {ss T : List Int} {u6 : Row} {W : World} (H : MaS w d wd c hv (.slice (some ⟨sb, 0, none⟩) k cap) tv k hs ss T u6 W) {j : Nat} (v : Int) (W' : World) (hW : W' = W.setCell ⟨sb, j, none⟩ (.int .i64 v)) :
    MaS w d wd c hv (.slice (some ⟨sb, 0, none⟩) k cap) tv k hs (ss.set j v) T u6 W' := by
  subst hW
  have h1 : W.ownsRow w.heap.size 3 1 (.slice (some ⟨sb, 0, none⟩) k cap) k (ints ss) := H.sep.own 1 (by omega)
  obtain ⟨hS, -, cs, hp⟩ := owned_block (H.sep.own 1 (by omega)) (k := sb) rfl
  have hp : W.heap[sb]? = some (.cells cs 3 (0, 0)) := hp
  have hl := H.lt
  have hr : Row.Owned ⟨3, 1, .slice (some ⟨sb, 0, none⟩) k cap, k, ints (ss.set j v)⟩ (W.setCell ⟨sb, j, none⟩ (.int .i64 v)) w.heap.size := by
    have h2 := (h1.stored j (.int .i64 v)).1
    have e : ints (ss.set j v) = (ints ss).set j (.int .i64 v) := by unfold ints; rw [List.map_set]
    show World.ownsRow _ _ _ _ _ _ _
    rw [e]
    exact h2
  have off : ∀ (q : Nat) (t : TypeId) (cs : Array Value), W.heap[q]? = some (Obj.cells cs t (0, 0)) → t ≠ 3 → (W.setCell ⟨sb, j, none⟩ (.int .i64 v)).heap[q]? = some (Obj.cells cs t (0, 0)) := fun q t cs hq ht => by
    have e : q ≠ sb := by rintro rfl; rw [hp] at hq; cases hq; exact ht rfl
    rw [Below.heap_setCell _ _ _ q e]; exact hq
  exact ⟨grown_far H.gr hS j _, H.dk.far (by omega) j _, off _ _ _ H.zz (by decide), off _ _ _ H.bx (by decide), (H.sep.upd (i := 1) (by omega) _ (h1.stored j (.int .i64 v)).2 hr (.inl rfl)).ext (fun i hi => by
    match i with
    | 0 => rfl
    | 1 => rfl
    | 2 => rfl
    | 3 => rfl
    | 4 => rfl
    | 5 => rfl
    | 6 => rfl
    | i + 7 => omega), hl⟩
theorem MaS.sea {w : World} {d : Nat} {wd : Int} {c : Nat} {hv tv : Value} {k sb cap : Nat} {hs : List (Int × Int)} {ss T : List Int} {u6 : Row} {W : World} (H : MaS w d wd c hv (.slice (some ⟨sb, 0, none⟩) k cap) tv k hs ss T u6 W) {j : Nat} (hj : j < k) :
    W.cell? ⟨sb, j, none⟩ = some (.int .i64 (ss.getD j 0)) ∧ W.frozen? ⟨sb, j, none⟩ = false := by
  have h1 : W.ownsRow w.heap.size 3 1 (.slice (some ⟨sb, 0, none⟩) k cap) k (ints ss) := H.sep.own 1 (by omega)
  have hlen : ss.length = k := by have := h1.1; simpa [ints] using this
  refine ⟨?_, h1.frozenAt j⟩
  rw [h1.cellAt j (by omega), ints_at' ss j (by omega), List.getD_eq_getElem?_getD]
/-- the two first seas -/
def two7 (b1 b2 : Bool) (N1 : Nat) (ss : List Int) : List Int := let s := if b1 then ss.set 0 1 else ss; if b2 then s.set N1 2 else s
theorem two7_a (b2 : Bool) {N1 : Nat} (h : 0 ≠ N1) (ss : List Int) : (two7 false b2 N1 ss).set 0 1 = two7 true b2 N1 ss := by
  cases b2
  · rfl
  · show (ss.set N1 2).set 0 1 = (ss.set 0 1).set N1 2
    exact List.set_comm _ _ (fun e => h e.symm)
theorem two7_b (b1 : Bool) (N1 : Nat) (ss : List Int) : (two7 b1 false N1 ss).set N1 2 = two7 b1 true N1 ss := by cases b1 <;> rfl
theorem lbeside_wd {wd : Int} (hw : 3 ≤ wd ∧ wd ≤ 10) (a b : Nat) (hv sv : Value) (w : World) (ha : a < 100) (hb : b < 100) :
    Calls Try.prog 51 #[.agg #[.int .i64 wd, hv, sv], .int .i64 a, .int .i64 b] w fun e w' => e = .returned (.bool (bes wd.toNat a b)) ∧ Below w.heap.size w w' := by
  have h := lbeside_any wd.toNat a b hv sv w (by omega) ha hb
  have e : ((wd.toNat : Nat) : Int) = wd := by omega
  rw [e] at h
  exact h
theorem load_ground {w : World} {b : Nat} {x y z : Value} (h0 : w.cell? ⟨b, 0, none⟩ = some x) (h1 : w.cell? ⟨b, 1, none⟩ = some y) (h2 : w.cell? ⟨b, 2, none⟩ = some z) : (loadVar 25 ⟨b, 0, none⟩).run Try.prog w = .ok (.agg #[x, y, z]) w :=
  run_loadVar_mid w b 0 25 [x, y, z] _ (range3 h0 h1 h2) Try.underlying25 rfl size_lclone_any
/-- a ground that was made -/
structure MadeG (C R : Int) (m rows : Nat) (hs : List (Int × Int)) (ss T : List Int) : Prop where
  c : 3 ≤ m ∧ (m : Int) ≤ C
  r : 2 ≤ rows ∧ (rows : Int) ≤ R
  cells : Cells3 (m * rows) hs ss T
  sea : SeaOk m (m * rows) (fun _ _ => True) ss
/-- what Made answers -/
def MadeAns (C R : Int) (d c0 : Nat) (w : World) (e : Ending) (w' : World) : Prop :=
  ∃ (m rows : Nat) (hv sv tv : Value) (hs : List (Int × Int)) (ss T : List Int) (c' : Nat), e = .returned (.tuple #[.agg #[.int .i64 m, hv, sv], tv]) ∧ MadeG C R m rows hs ss T ∧ Deck w' d c' ∧ c' ≤ c0 + 700 ∧ w.grownBy w' (some d) ∧
    w'.ownsRow w.heap.size 54 2 hv hs.length (spans hs) ∧ w'.ownsRow w.heap.size 3 1 sv ss.length (ints ss) ∧ w'.ownsRow w.heap.size 3 1 tv T.length (ints T)
theorem MaS.out {w : World} {d : Nat} {wd : Int} {c : Nat} {hv sv tv : Value} {k : Nat} {hs : List (Int × Int)} {ss T : List Int} {u6 : Row} {W : World} (H : MaS w d wd c hv sv tv k hs ss T u6 W) (a b c1 : Value) (W' : World) (hW : W' = ((W.setCell ⟨w.heap.size, 0, none⟩ a).setCell ⟨w.heap.size, 1, none⟩ b).setCell ⟨w.heap.size, 2, none⟩ c1) :
    Deck W' d c ∧ w.grownBy W' (some d) ∧ W'.ownsRow w.heap.size 54 2 hv k (spans hs) ∧ W'.ownsRow w.heap.size 3 1 sv k (ints ss) ∧ W'.ownsRow w.heap.size 3 1 tv k (ints T) := by
  subst hW
  have hl := H.lt
  have ht : ∀ i, i < 3 → 25 ≠ (rows3 hv sv tv k hs ss T (nilRow 54 2) (nilRow 3 1) (nilRow 3 1) u6 i).e := fun i hi => by
    match i with
    | 0 => show 25 ≠ 54; decide
    | 1 => show 25 ≠ 3; decide
    | 2 => show 25 ≠ 3; decide
    | i + 3 => omega
  have far : ∀ k, k ≠ w.heap.size → (((W.setCell ⟨w.heap.size, 0, none⟩ a).setCell ⟨w.heap.size, 1, none⟩ b).setCell ⟨w.heap.size, 2, none⟩ c1).heap[k]? = W.heap[k]? := fun k hk => by
    rw [Below.heap_setCell _ _ _ k hk, Below.heap_setCell _ _ _ k hk, Below.heap_setCell _ _ _ k hk]
  have own : ∀ i, i < 3 → (rows3 hv sv tv k hs ss T (nilRow 54 2) (nilRow 3 1) (nilRow 3 1) u6 i).Owned (((W.setCell ⟨w.heap.size, 0, none⟩ a).setCell ⟨w.heap.size, 1, none⟩ b).setCell ⟨w.heap.size, 2, none⟩ c1) w.heap.size := fun i hi =>
    owned_keep (H.sep.own i (by omega)) (fun q hq => far q (fun e => by
      obtain ⟨-, -, cs, hc⟩ := owned_block (H.sep.own i (by omega)) hq
      rw [e, H.zz] at hc
      exact ht i hi (Obj.cells.inj (Option.some.inj hc)).2.1))
  exact ⟨((H.dk.far (by omega) 0 _).far (by omega) 1 _).far (by omega) 2 _, grown_far (grown_far (grown_far H.gr (Nat.le_refl _) 0 _) (Nat.le_refl _) 1 _) (Nat.le_refl _) 2 _, own 0 (by omega), own 1 (by omega), own 2 (by omega)⟩
end Go.Proofs.Ytdgibmgifgdpbaa
