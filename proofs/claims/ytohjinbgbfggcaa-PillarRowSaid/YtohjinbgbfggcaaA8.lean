/-
  Parts of the proof, in the order in which they build: QiY.
-/
import Derived.Maps.OwnIn
import Derived.Test.YtohjinbgbfggcaaA7
import Derived.Test.YtohjinbgbfggcaaB1
set_option linter.unusedVariables false
set_option linter.unusedSimpArgs false
namespace Go.Proofs.Ytohjinbgbfggcaa
open Go.RowKit Go.Shelf
open Lim
attribute [local go_sem] Oper.semAt_some

set_option maxHeartbeats 400000 in
theorem revS_nil (w : World) : Calls Try.prog 83 #[.slice none 0 0] w fun e w' => e = .returned (.tuple #[]) ∧ w' = w := by
  have hw0 : IntKind.i64.wrap ((0 : Int) - 1) = -1 := by decide
  have g1 : decide ((0 : Int) < -1) = false := by decide
  go_enter Try.func83, Try.ntmps83
  go_wp2_with fail
  go_loopw [2, 3] (fun iv jv wr => iv = .int .i64 0 ∧ jv = .int .i64 (-1) ∧ w = wr) (fun _ _ _ => 0)
  case atStart => exact ⟨rfl, rfl, rfl⟩
  case round =>
    obtain ⟨rfl, rfl, rfl⟩ := hrel
    go_wp2
    exact bodyPost_end (results_none rfl _ _ _) rfl ⟨rfl, rfl⟩
/-- any list of the call's own is turned round -/
theorem revS_any {base n : Nat} {v : Value} {L : List (Int × Int)} {w : World} (hn : n ≤ 1000) (hL : n = L.length) (h : w.ownsRow base 28 2 v n (spans L)) :
    Calls Try.prog 83 #[v] w fun e w' => e = .returned (.tuple #[]) ∧ w'.ownsRow base 28 2 v n (spans L.reverse) ∧ w.grownBy w' v.ownBlock := by
  rcases h.2 with ⟨rfl, rfl⟩ | ⟨g, cap, cur, rfl, h3⟩
  · refine (revS_nil w).mono ?_
    rintro e w' ⟨rfl, rfl⟩
    have : L = [] := List.eq_nil_of_length_eq_zero hL.symm
    subst this
    exact ⟨rfl, h, .refl _ _⟩
  · exact revS_some hn hL h
/-- an address that a slice may have -/
def PlainV (v : Value) : Prop := ∀ a n c, v = .slice (some a) n c → ∃ b o, a = ⟨b, o, none⟩
theorem clone_span0 {B n : Nat} {v : Value} {xs : List (Int × Int)} {w : World} (hB : B ≤ w.heap.size) (hv : RS B w v n (spans xs)) (hp : PlainV v) (hn : n = xs.length) (h4 : n ≤ 90000) :
    Calls Try.prog 82 #[v] w fun e w' => ∃ v', e = .returned v' ∧ w'.ownsRow w.heap.size 28 2 v' n (spans xs) ∧ Below w.heap.size w w' := by
  by_cases h0 : 0 < n
  · exact clone_any_span hB hv hn h4 h0
  · have hn0 : n = 0 := by omega
    have hx : xs = [] := List.eq_nil_of_length_eq_zero (by omega)
    subst hx hn0
    obtain ⟨a, c, rfl, -⟩ := hv
    cases a with
    | none =>
      refine (Try.slices_CloneS_nil _ _ w).mono ?_
      rintro e w' ⟨rfl, rfl⟩
      exact ⟨_, rfl, ownsRow_zero _ _ _ _, Below.refl _ _⟩
    | some ad =>
      obtain ⟨b, o, rfl⟩ := hp _ _ _ rfl
      obtain ⟨i0, hi, hz0, hz1, hz2⟩ := info_parts Try.infoSpan
      refine (Try.slices_CloneS i0 (.agg #[.int .i64 0, .int .i64 0]) 2 16 hi hz0 hz1 hz2 rfl (by decide) sizeSpan b o 0 c [] w rfl (by unfold maxLen; omega) (by omega) (fun j u h => (by cases h)) (fun u h => (by cases h))).mono ?_
      rintro e w' ⟨v', rfl, h1, -, h2⟩
      exact ⟨v', rfl, h1, h2⟩
/-- the roll and the finds from their other end -/
def Rd.back (d : Rd) : Rd := ⟨d.r.reverse, d.f.reverse, d.m.reverse.map (fun n => if n = -1 then n else (d.r.length : Int) - n)⟩
theorem SpR.reverse {l : List (Int × Int)} (h : SpR l) : SpR l.reverse := fun s hs => h s (List.mem_reverse.1 hs)
theorem RdOk.back {d : Rd} (h : RdOk d) : RdOk d.back :=
  ⟨h.rr.reverse, h.fr.reverse, by show 1 ≤ d.r.reverse.length; rw [List.length_reverse]; exact h.r1, by show d.r.reverse.length ≤ 39; rw [List.length_reverse]; exact h.r39, by show (d.m.reverse.map _).length ≤ 40; rw [List.length_map, List.length_reverse]; exact h.m40,
   by show 1 ≤ (d.m.reverse.map _).length; rw [List.length_map, List.length_reverse]; exact h.m1, by show d.f.reverse.length + 1 = (d.m.reverse.map _).length; rw [List.length_map, List.length_reverse, List.length_reverse]; exact h.fm⟩
/-- counts of the stones from each one on, by the number of it -/
def behT (d : Rd) (k y : Nat) : Nat := if y ≤ d.r.length then tabTo d.back d.m.length 0 (d.m.length - 1 - k) (d.r.length - y) else 0
/-- a row from its other end -/
def turnT (rl : Nat) (X : Nat → Nat → Nat) (i y : Nat) : Nat := if y ≤ rl then X i (rl - y) else 0
/-- the first b cells of such a row -/
def partT (rl : Nat) (X : Nat → Nat) (b y : Nat) : Nat := if y < b then X (rl - y) else 0
theorem partT_zero (rl : Nat) (X : Nat → Nat) : partT rl X 0 = fun _ => 0 := by funext y; rw [partT, if_neg (Nat.not_lt_zero _)]
theorem partT_put (rl : Nat) (X : Nat → Nat) (b : Nat) : (fun y => if y = b then X (rl - b) else partT rl X b y) = partT rl X (b + 1) := by
  funext y
  unfold partT
  by_cases e : y = b
  · rw [if_pos e, if_pos (by omega), e]
  · rw [if_neg e]
    by_cases h : y < b
    · rw [if_pos h, if_pos (by omega)]
    · rw [if_neg h, if_neg (by omega)]
theorem partT_all (rl : Nat) (X : Nat → Nat → Nat) (i : Nat) : partT rl (X i) (rl + 1) = turnT rl X i := by
  funext y
  unfold partT turnT
  by_cases h : y ≤ rl
  · rw [if_pos h, if_pos (by omega)]
  · rw [if_neg h, if_neg (by omega)]
theorem bk_lt : ∀ n m x, x ∈ bk n m → m ≤ n → x < n := fun n m => by
  induction m with
  | zero => intro x h; cases h
  | succ m ih =>
    intro x h hm
    rcases List.mem_append.1 h with h | h
    · exact ih x h (by omega)
    · have : x = n - 1 - m := by simpa using h
      omega
theorem flat40 : ∀ (R : List (Nat → Nat)) (k y : Nat), y < 40 → k < R.length → (R.flatMap row40)[k * 40 + y]? = some (.int .i64 (R.getD k (fun _ => 0) y))
  | [], _, _, _, h => by cases h
  | T :: R, 0, y, hy, _ => by
    rw [Nat.zero_mul, Nat.zero_add, List.flatMap_cons, List.getElem?_append_left (by rw [row40_len]; exact hy), row40_at _ hy]; rfl
  | T :: R, k + 1, y, hy, h => by
    rw [List.flatMap_cons, List.getElem?_append_right (by rw [row40_len]; omega), row40_len, show (k + 1) * 40 + y - 40 = k * 40 + y by omega, flat40 R k y hy (by simpa using h)]
    rfl
theorem zero_int (w : World) : (zeroValue 3).run Try.prog w = .ok (.int .i64 0) w := by kernel_rfl
theorem foldl_two (p q : Tmp) (u v : Value) (t : Array Value) : ((#[p, q] : Array Tmp).zip #[u, v]).foldl (fun t (p, v) => t.setIfInBounds p v) t = (t.setIfInBounds p u).setIfInBounds q v := by
  simp
theorem bk_get (n : Nat) : ∀ m i, i < m → (bk n m)[i]? = some (n - 1 - i)
  | m + 1, i, h => by
    have hl : ∀ m, (bk n m).length = m := fun m => by
      induction m with
      | zero => rfl
      | succ m ih => rw [bk, List.length_append, ih]; rfl
    rw [bk]
    by_cases e : i < m
    · rw [List.getElem?_append_left (by rw [hl]; exact e)]; exact bk_get n m i e
    · have : i = m := by omega
      subst this
      rw [List.getElem?_append_right (by rw [hl]; exact Nat.le_refl _), hl, Nat.sub_self]; rfl
theorem bk_len (n : Nat) : ∀ m, (bk n m).length = m
  | 0 => rfl
  | m + 1 => by rw [bk, List.length_append, bk_len n m]; rfl
/-- a number from the other end -/
def tnum (d : Rd) (i : Nat) : Int := if d.m.getD i (-1) = -1 then -1 else (d.r.length : Int) - d.m.getD i (-1)
theorem bk_tnum (d : Rd) : (bk d.m.length d.m.length).map (tnum d) = d.back.m := by
  refine List.ext_getElem? (fun i => ?_)
  by_cases hi : i < d.m.length
  · rw [List.getElem?_map, bk_get _ _ i hi]
    show some (tnum d (d.m.length - 1 - i)) = (d.m.reverse.map _)[i]?
    have h1 : d.m.length - 1 - i < d.m.length := by omega
    rw [List.getElem?_map, List.getElem?_reverse hi, List.getElem?_eq_getElem h1]
    simp only [Option.map_some, tnum, List.getD_eq_getElem?_getD, List.getElem?_eq_getElem h1, Option.getD_some]
    congr 1
    split
    · rename_i h; exact h.symm
    · rfl
  · rw [List.getElem?_eq_none (by rw [List.length_map, bk_len]; omega), List.getElem?_eq_none (by show (d.m.reverse.map _).length ≤ i; rw [List.length_map, List.length_reverse]; omega)]
/-- what lies in memory while the numbers are turned -/
structure BhM (w W0 : World) (b6 S : Nat) (v7 : Value) (L : List Int) (W : World) : Prop where
  be : Below w.heap.size w W
  like : ∀ p : Addr, p.block < S → p ≠ ⟨b6, 1, none⟩ → W.cell? p = W0.cell? p
  sz : S ≤ W.heap.size
  lo : w.heap.size ≤ b6 ∧ b6 < S
  n7 : W.cell? ⟨b6, 1, none⟩ = some v7
  f7 : W.frozen? ⟨b6, 1, none⟩ = false
  o7 : W.ownsRow S 3 1 v7 L.length (ints L)
section
variable {w W0 : World} {b6 S : Nat} {v7 : Value} {L : List Int} {W W' : World}
theorem BhM.grow (h : BhM w W0 b6 S v7 L W) (hb : Below W.heap.size W W') : BhM w W0 b6 S v7 L W' :=
  ⟨h.be.trans (hb.mono h.be.size), fun p hp hne => (hb.cell (Nat.lt_of_lt_of_le hp h.sz)).trans (h.like p hp hne), Nat.le_trans h.sz hb.size, h.lo, hb.on h.n7, (hb.frozen (p := ⟨b6, 1, none⟩) (Nat.lt_of_lt_of_le h.lo.2 h.sz)).trans h.f7, owns_below h.o7 hb⟩
theorem BhM.steady (h : BhM w W0 b6 S v7 L W) {B : Nat} (hs : Steady B W W') (hB : w.heap.size ≤ B) (hSB : S ≤ B) : BhM w W0 b6 S v7 L W' := by
  have hz := h.sz
  refine ⟨h.be.steady hs hB h.be.size, fun p hp hne => ?_, Nat.le_trans h.sz hs.size, h.lo, hs.cell h.n7, (hs.frozen h.n7).trans h.f7, hs.owns h.o7⟩
  rw [← h.like p hp hne]
  have hl : p.block < W.heap.size := by omega
  exact World.cell?_of_block (w := W) ((hs.same p.block _ (Array.getElem?_eq_getElem hl) (.inl (by omega))).trans (Array.getElem?_eq_getElem hl).symm)
theorem BhM.add {W1 : World} {v' : Value} {x : Int} (h : BhM w W0 b6 S v7 L W) (hb : Below W.heap.size W W1) (ho : W'.ownsRow S 3 1 v' (L.length + 1) (ints L ++ [.int .i64 x])) (hg : W1.grownBy W' v7.ownBlock) : BhM w W0 b6 S v' (L ++ [x]) (W'.setCell ⟨b6, 1, none⟩ v') := by
  have g := h.grow hb
  have hb6 := h.lo
  have hz := g.sz
  have hlow : ∀ k, v7.ownBlock = some k → S ≤ k := fun k e => (g.o7.lt k e).1
  have b2 : Below S W1 W' := (Below.refl S W1).grown hg hz hlow
  refine ⟨(g.be.trans (b2.mono (by omega))).setCell (p := ⟨b6, 1, none⟩) hb6.1 _, fun p hp hne => ?_, ?_, hb6, World.cell?_setCell_same' _ _ _ (by rw [b2.cell (p := ⟨b6, 1, none⟩) hb6.2, g.n7]; rfl), ?_, ?_⟩
  · rw [World.cell?_setCell_other _ _ _ _ (fun e => hne e.symm), b2.cell hp]; exact g.like p hp hne
  · have := b2.size; simp [World.setCell]; omega
  · rw [World.frozen?_setCell, b2.frozen (p := ⟨b6, 1, none⟩) hb6.2]; exact g.f7
  · have h1 := owns_setCellB ho v' (p := b6) (j := 1) hb6.2
    simpa [ints] using h1
theorem BhM.all {a7 : Option Addr} {pl c7 : Nat} {v' : Value} {x : Int} (h : BhM w W0 b6 S (.slice a7 pl c7) L W) (hpl : pl = L.length) (hown : W'.ownsRow S 3 1 v' (pl + 1) (ints L ++ [.int .i64 x])) (hgr : (W.alloc (.cells #[.int .i64 x] 3)).grownBy W' (Value.slice a7 pl c7).ownBlock) :
    BhM w W0 b6 S v' (L ++ [x]) (W'.setCell ⟨b6, 1, none⟩ v') ∧ W'.cell? ⟨b6, 1, none⟩ = some (.slice a7 pl c7) ∧ W'.frozen? ⟨b6, 1, none⟩ = false ∧ KeepsOthers W (W'.setCell ⟨b6, 1, none⟩ v') := by
  have hb : Below W.heap.size W (W.alloc (.cells #[.int .i64 x] 3)) := (Below.refl _ W).alloc (Nat.le_refl _) _
  have g := h.grow hb
  have hown' : W'.ownsRow S 3 1 v' (L.length + 1) (ints L ++ [.int .i64 x]) := by rw [← hpl]; exact hown
  have ho := g.o7
  rw [← hpl] at ho
  have b2 : Below S (W.alloc (.cells #[.int .i64 x] 3)) W' := (Below.refl S _).grown hgr g.sz (fun k e => (ho.lt k e).1)
  refine ⟨h.add hb hown' hgr, (b2.cell (p := ⟨b6, 1, none⟩) h.lo.2).trans g.n7, (b2.frozen (p := ⟨b6, 1, none⟩) h.lo.2).trans g.f7, ((keeps_of_below hb).trans (keeps_of_row ho hgr)).trans (KeepsOthers.setCell _ _ _)⟩
end
theorem CebwI.like {q b o n c : Nat} {X : Nat → Int} {w W : World} {S : Nat} {b6 : Nat} (h : CebwI q b o n c X w) (hl : ∀ p : Addr, p.block < S → p ≠ ⟨b6, 1, none⟩ → W.cell? p = w.cell? p) (hq : q < S) (hb : b < S) (hq6 : q ≠ b6) (hb6 : b ≠ b6) : CebwI q b o n c X W :=
  ⟨(hl ⟨q, 0, none⟩ hq (fun e => hq6 (congrArg Addr.block e))).trans h.1, fun j hj => (hl ⟨b, o + j, none⟩ hb (fun e => hb6 (congrArg Addr.block e))).trans (h.2 j hj)⟩
set_option maxRecDepth 100000 in
set_option maxHeartbeats 2000000 in
theorem behind_any {B rc : Nat} {ra : Option Addr} {d : Rd} {fv mv : Value} {w : World} (hd : RdOk d) (hB : B ≤ w.heap.size) (hr : RS B w (.slice ra d.r.length rc) d.r.length (spans d.r)) (hf : RS B w fv d.f.length (spans d.f)) (hfp : PlainV fv) (hm : RS B w mv d.m.length (ints d.m)) (hnm : ∀ x ∈ d.m, -1 ≤ x ∧ x ≤ d.r.length) :
    Calls Try.prog 61 #[.agg #[.slice ra d.r.length rc], .agg #[fv, mv]] w fun e w' => ∃ v, e = .returned v ∧ Below w.heap.size w w' ∧ (∃ xs, w'.ownsRow w.heap.size 119 40 v d.m.length xs ∧ ∀ k y, k < d.m.length → y < 40 → xs[k * 40 + y]? = some (.int .i64 (behT d k y))) := by
  have HD := Lib.hid (And.intro hd hnm)
  have HR := Lib.hid (And.intro hB (And.intro hr (And.intro hf (And.intro hm hfp))))
  obtain ⟨rb, ro, rfl⟩ : ∃ rb ro, ra = some ⟨rb, ro, none⟩ := by
    obtain ⟨a2, c2, e2, h2⟩ := hr
    cases e2
    obtain ⟨rb, ro, rfl, -⟩ := h2 (by intro h; have h5 := congrArg List.length h; rw [spans_length, List.length_nil] at h5; have := hd.r1; omega)
    exact ⟨rb, ro, rfl⟩
  obtain ⟨fa, fc, rfl, -⟩ := hf
  obtain ⟨mb, mo, mc, rfl⟩ : ∃ mb mo mc, mv = .slice (some ⟨mb, mo, none⟩) d.m.length mc := by
    obtain ⟨a2, c2, rfl, h2⟩ := hm
    obtain ⟨mb, mo, rfl, -⟩ := h2 (ints_ne (by have := hd.m1; omega))
    exact ⟨mb, mo, c2, rfl⟩
  have r39 := hd.r39
  have m40 := hd.m40
  have m1 := hd.m1
  have fm := hd.fm
  have rl1 := hd.r1
  obtain ⟨rl, hrl⟩ : ∃ x, x = d.r.length := ⟨_, rfl⟩
  obtain ⟨fl, hfl⟩ : ∃ x, x = d.f.length := ⟨_, rfl⟩
  obtain ⟨ml, hml⟩ : ∃ x, x = d.m.length := ⟨_, rfl⟩
  have HL := Lib.hid (And.intro hrl (And.intro hfl hml))
  rw [← hrl, ← hfl, ← hml] at HR
  rw [← hrl] at r39 rl1
  rw [← hml] at m40 m1 fm
  rw [← hfl] at fm
  rw [← hrl, ← hfl, ← hml]
  have HM : Hid (Below w.heap.size w ((w.alloc (.cells #[.slice (some ⟨rb, ro, none⟩) rl rc] 87)).alloc (.cells #[.slice fa fl fc, .slice (some ⟨mb, mo, none⟩) ml mc] 90)) ∧ ((w.alloc (.cells #[.slice (some ⟨rb, ro, none⟩) rl rc] 87)).alloc (.cells #[.slice fa fl fc, .slice (some ⟨mb, mo, none⟩) ml mc] 90)).cell? ⟨w.heap.size, 0, none⟩ = some (.slice (some ⟨rb, ro, none⟩) rl rc) ∧ ((w.alloc (.cells #[.slice (some ⟨rb, ro, none⟩) rl rc] 87)).alloc (.cells #[.slice fa fl fc, .slice (some ⟨mb, mo, none⟩) ml mc] 90)).cell? ⟨w.heap.size + 1, 0, none⟩ = some (.slice fa fl fc) ∧ ((w.alloc (.cells #[.slice (some ⟨rb, ro, none⟩) rl rc] 87)).alloc (.cells #[.slice fa fl fc, .slice (some ⟨mb, mo, none⟩) ml mc] 90)).cell? ⟨w.heap.size + 1, 1, none⟩ = some (.slice (some ⟨mb, mo, none⟩) ml mc)) := Lib.hid (by
    refine ⟨((Below.refl _ w).alloc (Nat.le_refl _) _).alloc (by simp) _, ?_, ?_, ?_⟩ <;> simp [go_sem])
  clear hB hrl hfl hml hr hd hm hnm hfp
  refine (callsIn_wide (n := 2)).1 (callsIn_of_wp_marks Try.func61 rfl trivial ?_ rfl)
  simp only [Try.ntmps61, List.size_toArray, List.length_cons, List.length_nil, Nat.reduceAdd, Nat.reduceSub, Array.replicate_succ, Array.replicate_zero, List.push_toArray, List.append_toArray, List.nil_append, List.cons_append]
  refine wpIn_wide.2 ?_
  refine wp_noPanic ?_
  go_upto_region 1 with (fail)
  obtain ⟨q, hq⟩ : ∃ q, q = w.heap.size := ⟨_, rfl⟩
  have HQ := Lib.hid hq.symm
  rw [← hq] at HM
  simp only [← hq]
  clear hq
  generalize ((w.alloc (.cells #[.slice (some ⟨rb, ro, none⟩) rl rc] 87)).alloc (.cells #[.slice fa fl fc, .slice (some ⟨mb, mo, none⟩) ml mc] 90)) = w1 at HM ⊢
  obtain ⟨-, k0, k1, k2⟩ := HM.out
  have HW1 : Hid (Below w.heap.size w w1) := Lib.hid (by rw [HQ.out]; exact HM.out.1)
  have HQ1 := Lib.hid k1
  have HC1 := Lib.hid (clone_any_span (B := B) (v := .slice (some ⟨rb, ro, none⟩) rl rc) (xs := d.r) (n := rl) (w := w1) (Nat.le_trans HR.out.1 HW1.out.size) (HR.out.2.1.below (HW1.out.mono HR.out.1)) HL.out.1 (by omega) (by omega))
  clear HM
  go_wp2_with fail
  refine HC1.out.mono ?_
  rintro e w2 ⟨v5, rfl, ho5, hb2⟩
  have m0 := hb2.on k0
  have m1' := hb2.on k1
  have m2 := hb2.on k2
  have HW2 : Hid (Below w.heap.size w w2 ∧ w1.heap.size ≤ w2.heap.size) := Lib.hid ⟨HW1.out.trans (hb2.mono HW1.out.size), hb2.size⟩
  obtain ⟨g5, c5, rfl, HC5⟩ : ∃ g c, v5 = .slice (some ⟨g, 0, none⟩) rl c ∧ Hid (rl ≤ c) := by
    rcases ho5.2 with ⟨-, h0⟩ | ⟨g, cap, cur, rfl, h7⟩
    · omega
    · exact ⟨g, cap, rfl, Lib.hid (by have := h7; omega)⟩
  have HO5 := Lib.hid ho5
  clear hb2 k0 k1 k2 ho5 HC1
  go_wp2_with fail
  obtain ⟨b5, hb5⟩ : ∃ z, z = w2.heap.size := ⟨_, rfl⟩
  have hA : Below w2.heap.size w2 (w2.alloc (.cells #[.slice (some ⟨g5, 0, none⟩) rl c5] 87)) := (Below.refl _ w2).alloc (Nat.le_refl _) _
  have m0a := hA.on m0
  have m1a := hA.on m1'
  have m2a := hA.on m2
  have k5 : (w2.alloc (.cells #[.slice (some ⟨g5, 0, none⟩) rl c5] 87)).cell? ⟨b5, 0, none⟩ = some (.slice (some ⟨g5, 0, none⟩) rl c5) := by rw [hb5]; simp [go_sem]
  have HRV5 := Lib.hid (revS_any (by omega) HL.out.1 (owns_below HO5.out hA))
  have HG5 : Hid (w1.heap.size ≤ g5 ∧ g5 < b5 ∧ q + 1 < w1.heap.size) := Lib.hid (by
    have h1 := HO5.out.lt g5 rfl
    exact ⟨h1.1, by omega, World.block_lt_of_cell? _ _ HQ1.out⟩)
  have HWA : Hid (Below w.heap.size w (w2.alloc (.cells #[.slice (some ⟨g5, 0, none⟩) rl c5] 87))) := Lib.hid (HW2.out.1.trans (hA.mono HW2.out.1.size))
  rw [← hb5]
  clear hA m0 m1' m2
  generalize w2.alloc (.cells #[.slice (some ⟨g5, 0, none⟩) rl c5] 87) = w3 at m0a m1a m2a k5 HRV5 HWA ⊢
  clear hb5
  refine HRV5.out.mono ?_
  rintro e w4 ⟨rfl, ho5, hg5⟩
  have far : ∀ {p : Addr} {v : Value}, p.block ≠ g5 → w3.cell? p = some v → w4.cell? p = some v := fun {p v} hne hc => by
    have hl := World.block_lt_of_cell? _ _ hc
    exact (World.cell?_of_block (w := w3) (hg5.block _ hl (fun e => hne (by cases e; rfl)))).trans hc
  have n0 := far (p := ⟨q, 0, none⟩) (by show q ≠ g5; have := HG5.out; omega) m0a
  have n1 := far (p := ⟨q + 1, 0, none⟩) (by show q + 1 ≠ g5; have := HG5.out; omega) m1a
  have n2 := far (p := ⟨q + 1, 1, none⟩) (by show q + 1 ≠ g5; have := HG5.out; omega) m2a
  have n5 := far (p := ⟨b5, 0, none⟩) (by show b5 ≠ g5; have := HG5.out; omega) k5
  have HO5b := Lib.hid ho5
  have hrow : ∀ k, (Value.slice (some ⟨g5, 0, none⟩) rl c5).ownBlock = some k → w.heap.size ≤ k := fun k e => by
    have h1 := HG5.out
    have h2 := HW1.out.size
    have h3 : g5 = k := by simpa [Value.ownBlock] using e
    omega
  have HW4 : Hid (Below w.heap.size w w4 ∧ b5 < w4.heap.size) := Lib.hid ⟨HWA.out.grown hg5 HWA.out.size hrow, World.block_lt_of_cell? _ _ n5⟩
  clear hrow
  have HC2 := Lib.hid (clone_span0 (B := B) (v := .slice fa fl fc) (xs := d.f) (n := fl) (w := w4) (Nat.le_trans HR.out.1 HW4.out.1.size) (HR.out.2.2.1.below (HW4.out.1.mono HR.out.1)) HR.out.2.2.2.2 HL.out.2.1 (by omega))
  clear far ho5 hg5 m0a m1a m2a k5 HRV5 HWA
  go_wp2_with fail
  refine HC2.out.mono ?_
  rintro e w5 ⟨v6, rfl, ho6, hb5⟩
  have p0 := hb5.on n0
  have p1 := hb5.on n1
  have p2 := hb5.on n2
  have p5 := hb5.on n5
  have HO6 := Lib.hid ho6
  have HO5c := Lib.hid (owns_below HO5b.out hb5)
  have HW5 : Hid (Below w.heap.size w w5 ∧ w4.heap.size ≤ w5.heap.size) := Lib.hid ⟨HW4.out.1.trans (hb5.mono HW4.out.1.size), hb5.size⟩
  clear hb5 ho6 n0 n1 n2 n5 HO5b HC2
  obtain ⟨a6, c6, rfl⟩ : ∃ a c, v6 = .slice a fl c := by
    rcases HO6.out.2 with ⟨rfl, h0⟩ | ⟨g, cap, cur, rfl, -⟩
    · exact ⟨none, 0, by rw [h0]⟩
    · exact ⟨_, cap, rfl⟩
  go_wp2_with fail
  obtain ⟨b6, hb6⟩ : ∃ z, z = w5.heap.size := ⟨_, rfl⟩
  have hA : Below w5.heap.size w5 (w5.alloc (.cells #[.slice a6 fl c6, .slice none 0 0] 90)) := (Below.refl _ w5).alloc (Nat.le_refl _) _
  have r0 := hA.on p0
  have r1 := hA.on p1
  have r2 := hA.on p2
  have r5 := hA.on p5
  have k6 : (w5.alloc (.cells #[.slice a6 fl c6, .slice none 0 0] 90)).cell? ⟨b6, 0, none⟩ = some (.slice a6 fl c6) := by rw [hb6]; simp [go_sem]
  have k7 : (w5.alloc (.cells #[.slice a6 fl c6, .slice none 0 0] 90)).cell? ⟨b6, 1, none⟩ = some (.slice none 0 0) := by rw [hb6]; simp [go_sem]
  have fz : ∀ j, (w5.alloc (.cells #[.slice a6 fl c6, .slice none 0 0] 90)).frozen? ⟨b6, j, none⟩ = false := fun j => by rw [hb6]; exact World.frozen?_alloc_new ..
  have HRV6 := Lib.hid (revS_any (by omega) HL.out.2.1 (owns_below HO6.out hA))
  have HO5d := Lib.hid (owns_below HO5c.out hA)
  have HG6 : Hid (∀ k, (Value.slice a6 fl c6).ownBlock = some k → w4.heap.size ≤ k ∧ k < b6) := Lib.hid (fun k e => by have h1 := HO6.out.lt k e; omega)
  have HWA : Hid (Below w.heap.size w (w5.alloc (.cells #[.slice a6 fl c6, .slice none 0 0] 90)) ∧ w5.heap.size ≤ b6) := Lib.hid ⟨HW5.out.1.trans (hA.mono HW5.out.1.size), by omega⟩
  rw [← hb6]
  clear hA p0 p1 p2 p5 HO6 HO5c
  generalize w5.alloc (.cells #[.slice a6 fl c6, .slice none 0 0] 90) = w6 at r0 r1 r2 r5 k6 k7 fz HRV6 HWA HO5d ⊢
  clear hb6
  refine HRV6.out.mono ?_
  rintro e w7 ⟨rfl, ho6, hg6⟩
  have ob : ∀ b, (b < w4.heap.size ∨ b = b6) → some b ≠ (Value.slice a6 fl c6).ownBlock := fun b hb e => by
    have h1 := HG6.out b e.symm
    omega
  have far : ∀ {p : Addr} {v : Value}, (p.block < w4.heap.size ∨ p.block = b6) → w6.cell? p = some v → w7.cell? p = some v := fun {p v} hne hc => by
    have hl := World.block_lt_of_cell? _ _ hc
    exact (World.cell?_of_block (w := w6) (hg6.block _ hl (ob _ hne))).trans hc
  have hq4 : q + 1 < w4.heap.size := by have := HG5.out; have := HW4.out.2; omega
  have s0 := far (p := ⟨q, 0, none⟩) (.inl (by show q < _; omega)) r0
  have s1 := far (p := ⟨q + 1, 0, none⟩) (.inl (by show q + 1 < _; omega)) r1
  have s2 := far (p := ⟨q + 1, 1, none⟩) (.inl (by show q + 1 < _; omega)) r2
  have s5 := far (p := ⟨b5, 0, none⟩) (.inl HW4.out.2) r5
  have s6 := far (p := ⟨b6, 0, none⟩) (.inr rfl) k6
  have s7 := far (p := ⟨b6, 1, none⟩) (.inr rfl) k7
  have t7 : w7.frozen? ⟨b6, 1, none⟩ = false := by
    rw [World.frozen?_of_block (w := w6) (hg6.block b6 (World.block_lt_of_cell? _ _ k7) (ob _ (.inr rfl)))]; exact fz 1
  have HW7 : Hid (Below w.heap.size w w7) := Lib.hid (HWA.out.1.grown hg6 HWA.out.1.size (fun k e => by have h1 := HG6.out k e; have h2 := HW4.out.1.size; omega))
  have C5 : Hid (∀ j u, (spans d.r.reverse)[j]? = some u → w7.cell? ⟨g5, j, none⟩ = some u) := Lib.hid (fun j u hj => by
    have h1 := HO5d.out.cells (g := g5) rfl j u hj
    rw [Addr.add_lit, Nat.zero_add] at h1
    exact far (p := ⟨g5, j, none⟩) (.inl (by show g5 < _; have := HG5.out; have := HW4.out.2; omega)) h1)
  have C6 : Hid ((spans d.f.reverse) ≠ [] → ∃ g6, a6 = some ⟨g6, 0, none⟩ ∧ g6 < b6 ∧ ∀ j u, (spans d.f.reverse)[j]? = some u → w7.cell? ⟨g6, j, none⟩ = some u) := Lib.hid (fun hne => by
    rcases ho6.2 with ⟨e1, e2⟩ | ⟨g, cap, cur, e1, -⟩
    · exact absurd ho6.1 (by rw [e2]; intro h; exact hne (List.eq_nil_of_length_eq_zero (by omega)))
    · cases e1
      refine ⟨g, rfl, (HG6.out g rfl).2, fun j u hj => ?_⟩
      have h1 := ho6.cells (g := g) rfl j u hj
      rw [Addr.add_lit, Nat.zero_add] at h1
      exact h1)
  have HN6 : Hid (g5 < b6 ∧ b5 < b6 ∧ q + 1 < b6 ∧ w.heap.size ≤ b6) := Lib.hid (by have := HG5.out; have := HW4.out.2; have := HW5.out.2; have := HWA.out.2; have := HW4.out.1.size; omega)
  clear far ob ho6 hg6 r0 r1 r2 r5 k6 k7 fz HRV6 HO5d hq4
  go_wp2_with (go_at_call 84; refine (backward_anyI _ _ _ _).mono ?_; rintro e w' ⟨rfl, rfl⟩)
  obtain ⟨b8, hb8⟩ : ∃ z, z = w7.heap.size := ⟨_, rfl⟩
  have hA : Below w7.heap.size w7 (w7.alloc (.cells #[.slice (some ⟨mb, mo, none⟩) ml mc] 25)) := (Below.refl _ w7).alloc (Nat.le_refl _) _
  have hS8 : (w7.alloc (.cells #[.slice (some ⟨mb, mo, none⟩) ml mc] 25)).heap.size = b8 + 1 := by rw [hb8]; simp
  have hX : Hid (mb < B ∧ ∀ W, Below w.heap.size w W → ∀ j, j < ml → W.cell? ⟨mb, mo + j, none⟩ = some (.int .i64 (d.m.getD j (-1)))) := Lib.hid (by
    obtain ⟨a2, c2, e2, h2⟩ := HR.out.2.2.2.1
    cases e2
    obtain ⟨mb', mo', e3, h3, h4⟩ := h2 (ints_ne (by have := HL.out; omega))
    cases e3
    refine ⟨h3, fun W hW j hj => ?_⟩
    have hj' : j < d.m.length := by have := HL.out; omega
    have h5 := h4 j _ (ints_at' d.m j hj')
    rw [(hW.mono HR.out.1).cell (p := ⟨mb, mo + j, none⟩) h3, h5, List.getD_eq_getElem?_getD, List.getElem?_eq_getElem hj']; rfl)
  have hC8 : CebwI b8 mb mo ml mc (fun i => d.m.getD i (-1)) (w7.alloc (.cells #[.slice (some ⟨mb, mo, none⟩) ml mc] 25)) := ⟨by rw [hb8]; simp [go_sem], fun j hj => hX.out.2 _ (HW7.out.trans (hA.mono HW7.out.size)) j hj⟩
  have hN8 : Hid (b6 < b8 ∧ mb < b6) := Lib.hid (by
    have h1 : b6 < w7.heap.size := World.block_lt_of_cell? _ _ s6
    have := HN6.out; have := hX.out.1; have := HR.out.1
    omega)
  have HB8 : Hid (BhM w (w7.alloc (.cells #[.slice (some ⟨mb, mo, none⟩) ml mc] 25)) b6 (b8 + 1) (.slice none 0 0) [] (w7.alloc (.cells #[.slice (some ⟨mb, mo, none⟩) ml mc] 25))) := Lib.hid
    ⟨HW7.out.trans (hA.mono HW7.out.size), fun _ _ _ => rfl, by omega, ⟨HN6.out.2.2.2, by have := hN8.out; omega⟩, hA.on s7, (hA.frozen (p := ⟨b6, 1, none⟩) (World.block_lt_of_cell? _ _ s7)).trans t7, ownsRow_zero _ _ _ _⟩
  have HF8 : Hid ((w7.alloc (.cells #[.slice (some ⟨mb, mo, none⟩) ml mc] 25)).cell? ⟨q, 0, none⟩ = some (.slice (some ⟨rb, ro, none⟩) rl rc) ∧ (w7.alloc (.cells #[.slice (some ⟨mb, mo, none⟩) ml mc] 25)).cell? ⟨b5, 0, none⟩ = some (.slice (some ⟨g5, 0, none⟩) rl c5) ∧ (w7.alloc (.cells #[.slice (some ⟨mb, mo, none⟩) ml mc] 25)).cell? ⟨b6, 0, none⟩ = some (.slice a6 fl c6) ∧
      (∀ j u, (spans d.r.reverse)[j]? = some u → (w7.alloc (.cells #[.slice (some ⟨mb, mo, none⟩) ml mc] 25)).cell? ⟨g5, j, none⟩ = some u) ∧
      ((spans d.f.reverse) ≠ [] → ∃ g6, a6 = some ⟨g6, 0, none⟩ ∧ g6 < b6 ∧ ∀ j u, (spans d.f.reverse)[j]? = some u → (w7.alloc (.cells #[.slice (some ⟨mb, mo, none⟩) ml mc] 25)).cell? ⟨g6, j, none⟩ = some u)) := Lib.hid
    ⟨hA.on s0, hA.on s5, hA.on s6, fun j u hj => hA.on (C5.out j u hj), fun hne => let ⟨g6, h1, h2, h3⟩ := C6.out hne; ⟨g6, h1, h2, fun j u hj => hA.on (h3 j u hj)⟩⟩
  rw [← hb8]
  generalize w7.alloc (.cells #[.slice (some ⟨mb, mo, none⟩) ml mc] 25) = W8 at hS8 hC8 HB8 HF8 ⊢
  have hW8 := Lib.hid hS8
  clear hA hb8 hS8 s0 s1 s2 s5 s6 s7 t7 C5 C6 HW7
  refine wp_rangeG (β := Nat) (xs := bk ml ml) (enc := encbwI (fun i => d.m.getD i (-1))) rfl (enters_of Try.func96 (by kernel_rfl) rfl) (CebwI b8 mb mo ml mc (fun i => d.m.getD i (-1)))
    (back_iterI (by omega) hC8)
    (fun pre W4 => ∃ v7, Hid (BhM w W8 b6 (b8 + 1) v7 (pre.map (tnum d)) W4) ∧ CebwI b8 mb mo ml mc (fun i => d.m.getD i (-1)) W4)
    (fun _ _ _ => False) (fun _ _ h => by obtain ⟨_, _, h⟩ := h; exact h) (fun _ _ h hs => h.steady hs) ?sI (fun _ _ _ _ h _ => h)
    ⟨_, HB8, hC8⟩
    (fun z => { tmps := #[Value.agg #[Value.slice (some ⟨rb, ro, none⟩) rl rc], Value.agg #[Value.slice fa fl fc, Value.slice (some ⟨mb, mo, none⟩) ml mc], Value.pointer (some ⟨q, 0, none⟩), Value.pointer (some ⟨q + 1, 0, none⟩), Value.slice none 0 0, Value.pointer (some ⟨b5, 0, none⟩), Value.pointer (some ⟨b6, 0, none⟩), undef, .int .i64 (d.m.getD z (-1)), undef, undef, undef, undef, undef, Value.pointer (some ⟨q, 0, none⟩), Value.slice (some ⟨rb, ro, none⟩) rl rc, Value.slice (some ⟨g5, 0, none⟩) rl c5, Value.agg #[Value.slice (some ⟨g5, 0, none⟩) rl c5], Value.pointer (some ⟨b5, 0, none⟩), Value.slice (some ⟨g5, 0, none⟩) rl c5, Value.tuple #[], Value.pointer (some ⟨q + 1, 0, none⟩), Value.slice fa fl fc, Value.slice a6 fl c6, Value.agg #[Value.slice a6 fl c6, Value.slice none 0 0], Value.pointer (some ⟨b6, 0, none⟩), Value.slice a6 fl c6, Value.tuple #[], Value.pointer (some ⟨q + 1, 1, none⟩), Value.slice (some ⟨mb, mo, none⟩) ml mc, Value.func (.func 96) #[] #[Value.pointer (some ⟨b8, 0, none⟩)], .int .i64 (z : Nat), .int .i64 (d.m.getD z (-1)), undef, undef, undef, undef, undef, undef, undef, undef, undef, undef, undef, undef, undef, undef, undef, undef, undef, undef, undef, undef, undef, undef, undef, undef, undef, undef, undef, undef, undef, undef, undef, undef, undef, undef, undef, undef, undef, undef, undef, undef, undef, undef], defers := [] }) (fun _ => rfl) ?assign ?body ?done ?stop
  case sI =>
    rintro _ _ _ ⟨v7, h1, h2⟩ hs
    exact ⟨v7, Lib.hid (h1.out.steady hs (Nat.le_trans h1.out.lo.1 (by have := hW8.out; have := h1.out.lo.2; omega)) (by have := hW8.out; omega)), h2.steady hs⟩
  case assign =>
    intro lp z W K hK
    unfold encbwI
    rw [foldl_two]
    gi_wp2
    exact hK
  case stop => rintro _ _ _ _ _ _ h; exact h.elim
  case done =>
    rintro D W4 hD ⟨v7, h1, h2⟩ hk
    have hL7 : Hid ((bk ml ml).map (tnum d) = d.back.m) := Lib.hid (by rw [HL.out.2.2]; exact bk_tnum d)
    have h1 := h1.out
    rw [hL7.out] at h1
    have HB1 := Lib.hid h1
    have lk : ∀ p : Addr, p.block < b8 + 1 → p.block ≠ b6 → W4.cell? p = W8.cell? p := fun p hp hne => h1.like p hp (fun e => hne (congrArg Addr.block e))
    have u0 : W4.cell? ⟨q, 0, none⟩ = some (.slice (some ⟨rb, ro, none⟩) rl rc) := (lk ⟨q, 0, none⟩ (by show q < _; have := HN6.out; have := hN8.out; omega) (by show q ≠ _; have := HN6.out; omega)).trans HF8.out.1
    have u5 : W4.cell? ⟨b5, 0, none⟩ = some (.slice (some ⟨g5, 0, none⟩) rl c5) := (lk ⟨b5, 0, none⟩ (by show b5 < _; have := HN6.out; have := hN8.out; omega) (by show b5 ≠ _; have := HN6.out; omega)).trans HF8.out.2.1
    have u6 : W4.cell? ⟨b6, 0, none⟩ = some (.slice a6 fl c6) := (h1.like ⟨b6, 0, none⟩ (by show b6 < _; have := hN8.out; omega) (fun e => by have := congrArg Addr.off e; simp at this)).trans HF8.out.2.2.1
    have n7 := h1.n7
    have HMK := Lib.hid (And.intro hD hk)
    clear h1 hk h2 hC8 hD
    have hB4 : Hid (Below w.heap.size w W4) := Lib.hid HB1.out.be
    have hW9 := BcM.start hB4.out #[.int .i64 0, .int .i64 0, .int .i64 0, .int .i64 0, .int .i64 0, .int .i64 0, .int .i64 0, .int .i64 0, .int .i64 0, .int .i64 0, .int .i64 0, .int .i64 0, .int .i64 0, .int .i64 0, .int .i64 0, .int .i64 0, .int .i64 0, .int .i64 0, .int .i64 0, .int .i64 0, .int .i64 0, .int .i64 0, .int .i64 0, .int .i64 0, .int .i64 0, .int .i64 0, .int .i64 0, .int .i64 0, .int .i64 0, .int .i64 0, .int .i64 0, .int .i64 0, .int .i64 0, .int .i64 0, .int .i64 0, .int .i64 0, .int .i64 0, .int .i64 0, .int .i64 0, .int .i64 0] rfl
    have x0' := u0
    have HRF : Hid (∀ W, Below W4.heap.size W4 W → RS W.heap.size W (.slice (some ⟨g5, 0, none⟩) rl c5) rl (spans d.r.reverse) ∧ RS W.heap.size W (.slice a6 fl c6) fl (spans d.f.reverse) ∧ RS W.heap.size W v7 d.back.m.length (ints d.back.m)) := Lib.hid (fun W hW => by
      have hz := HB1.out.sz
      refine ⟨⟨_, _, rfl, fun _ => ⟨g5, 0, rfl, by have := hW.size; have := HN6.out; have := hN8.out; omega, fun j u hj => ?_⟩⟩, ?_, ((RS.of_owns HB1.out.o7).below hW).mono hW.size⟩
      · rw [Nat.zero_add, hW.cell (p := ⟨g5, j, none⟩) (by show g5 < _; have := HN6.out; have := hN8.out; omega), lk ⟨g5, j, none⟩ (by show g5 < _; have := HN6.out; have := hN8.out; omega) (by show g5 ≠ _; have := HN6.out; omega)]
        exact HF8.out.2.2.2.1 j u hj
      · refine ⟨_, _, rfl, fun hne => ?_⟩
        obtain ⟨g6, e6, l6, c6'⟩ := HF8.out.2.2.2.2 hne
        refine ⟨g6, 0, e6, by have := hW.size; have := hN8.out; omega, fun j u hj => ?_⟩
        rw [Nat.zero_add, hW.cell (p := ⟨g6, j, none⟩) (by show g6 < _; have := hN8.out; omega), lk ⟨g6, j, none⟩ (by show g6 < _; have := hN8.out; omega) (by show g6 ≠ _; omega)]
        exact c6' j u hj)
    have hA : Below W4.heap.size W4 ((W4.alloc (.cells #[.slice none 0 0] 116)).alloc (.cells #[.int .i64 0, .int .i64 0, .int .i64 0, .int .i64 0, .int .i64 0, .int .i64 0, .int .i64 0, .int .i64 0, .int .i64 0, .int .i64 0, .int .i64 0, .int .i64 0, .int .i64 0, .int .i64 0, .int .i64 0, .int .i64 0, .int .i64 0, .int .i64 0, .int .i64 0, .int .i64 0, .int .i64 0, .int .i64 0, .int .i64 0, .int .i64 0, .int .i64 0, .int .i64 0, .int .i64 0, .int .i64 0, .int .i64 0, .int .i64 0, .int .i64 0, .int .i64 0, .int .i64 0, .int .i64 0, .int .i64 0, .int .i64 0, .int .i64 0, .int .i64 0, .int .i64 0, .int .i64 0] 119)) := ((Below.refl _ W4).alloc (Nat.le_refl _) _).alloc (by simp) _
    have y0 := hA.on u0
    have y5 := hA.on u5
    have y6 := hA.on u6
    have y7 := hA.on n7
    have HRS := Lib.hid (HRF.out _ hA)
    have HM9 : Hid (MarksLt w.heap.size ((W4.alloc (.cells #[.slice none 0 0] 116)).alloc (.cells #[.int .i64 0, .int .i64 0, .int .i64 0, .int .i64 0, .int .i64 0, .int .i64 0, .int .i64 0, .int .i64 0, .int .i64 0, .int .i64 0, .int .i64 0, .int .i64 0, .int .i64 0, .int .i64 0, .int .i64 0, .int .i64 0, .int .i64 0, .int .i64 0, .int .i64 0, .int .i64 0, .int .i64 0, .int .i64 0, .int .i64 0, .int .i64 0, .int .i64 0, .int .i64 0, .int .i64 0, .int .i64 0, .int .i64 0, .int .i64 0, .int .i64 0, .int .i64 0, .int .i64 0, .int .i64 0, .int .i64 0, .int .i64 0, .int .i64 0, .int .i64 0, .int .i64 0, .int .i64 0] 119)).heap.size [markOf D] ((W4.alloc (.cells #[.slice none 0 0] 116)).alloc (.cells #[.int .i64 0, .int .i64 0, .int .i64 0, .int .i64 0, .int .i64 0, .int .i64 0, .int .i64 0, .int .i64 0, .int .i64 0, .int .i64 0, .int .i64 0, .int .i64 0, .int .i64 0, .int .i64 0, .int .i64 0, .int .i64 0, .int .i64 0, .int .i64 0, .int .i64 0, .int .i64 0, .int .i64 0, .int .i64 0, .int .i64 0, .int .i64 0, .int .i64 0, .int .i64 0, .int .i64 0, .int .i64 0, .int .i64 0, .int .i64 0, .int .i64 0, .int .i64 0, .int .i64 0, .int .i64 0, .int .i64 0, .int .i64 0, .int .i64 0, .int .i64 0, .int .i64 0, .int .i64 0] 119))) := Lib.hid ⟨[D], rfl, by simp, fun E hE => by
      obtain rfl : E = D := by simpa using hE
      have hl := (Array.getElem?_eq_some_iff.1 HMK.out.2).1
      exact ⟨by have := HMK.out.1; have := hW8.out; have := HN6.out; have := hN8.out; omega, Nat.lt_of_lt_of_le hl hA.size, (hA.block E hl).trans HMK.out.2⟩⟩
    clear u0 u5 u6 n7 x0' lk
    go_upto_region 12 with (fail)
    obtain ⟨b9, hb9⟩ : ∃ z, z = W4.heap.size := ⟨_, rfl⟩
    rw [← hb9] at hW9
    have HL9 : Hid (b8 + 1 ≤ b9) := Lib.hid (by rw [hb9]; exact HB1.out.sz)
    rw [← hb9]
    clear hA
    generalize ((W4.alloc (.cells #[.slice none 0 0] 116)).alloc (.cells #[.int .i64 0, .int .i64 0, .int .i64 0, .int .i64 0, .int .i64 0, .int .i64 0, .int .i64 0, .int .i64 0, .int .i64 0, .int .i64 0, .int .i64 0, .int .i64 0, .int .i64 0, .int .i64 0, .int .i64 0, .int .i64 0, .int .i64 0, .int .i64 0, .int .i64 0, .int .i64 0, .int .i64 0, .int .i64 0, .int .i64 0, .int .i64 0, .int .i64 0, .int .i64 0, .int .i64 0, .int .i64 0, .int .i64 0, .int .i64 0, .int .i64 0, .int .i64 0, .int .i64 0, .int .i64 0, .int .i64 0, .int .i64 0, .int .i64 0, .int .i64 0, .int .i64 0, .int .i64 0] 119)) = W9 at y0 y5 y6 y7 HRS HM9 hW9 ⊢
    have HW9 := Lib.hid hW9
    have HRA : Hid (Calls Try.prog 60 #[.agg #[.slice (some ⟨g5, 0, none⟩) rl c5], .agg #[.slice a6 fl c6, v7]] W9 fun e w' => ∃ g, e = .returned (.slice (some ⟨g, 0, none⟩) ml ml) ∧ CtM W9 g ml (tabTo d.back ml 0) w') := Lib.hid (by
      have e1 : d.back.r.length = rl := by rw [HL.out.1]; exact List.length_reverse
      have e2 : d.back.f.length = fl := by rw [HL.out.2.1]; exact List.length_reverse
      have e3 : d.back.m.length = ml := by rw [HL.out.2.2]; show (d.m.reverse.map _).length = _; rw [List.length_map, List.length_reverse]
      have h := rahead_any (B := W9.heap.size) (rc := c5) (ra := some ⟨g5, 0, none⟩) (fv := .slice a6 fl c6) (mv := v7) (d := d.back) (w := W9) HD.out.1.back (Nat.le_refl _) (by rw [e1]; exact HRS.out.1) (by rw [e1]; exact HC5.out) (by rw [e2]; exact HRS.out.2.1) HRS.out.2.2
      rw [e1, e3] at h
      exact h)
    have HLO : Hid (w.heap.size ≤ b9 ∧ b9 + 1 < W9.heap.size ∧ q + 1 < b9) := Lib.hid (by have := hW9.lo; have := hW9.sz; have := HN6.out; have := hN8.out; have := HL9.out; omega)
    clear hb9 hW9
    go_wp2_with fail
    refine HRA.out.mono ?_
    rintro e W10 ⟨g, rfl, hct⟩
    have HCT := Lib.hid hct
    have hq1 := hct.be.on y0
    clear y0 y5 y6 y7 hct HRA HRS
    go_wp2_with (go_at_call 85; refine (backward_anyC _ _ _ _).mono ?_; rintro e w' ⟨rfl, rfl⟩)
    obtain ⟨q2, hq2⟩ : ∃ z, z = W10.heap.size := ⟨_, rfl⟩
    have hA : Below W10.heap.size W10 (W10.alloc (.cells #[.slice (some ⟨g, 0, none⟩) ml ml] 116)) := (Below.refl _ W10).alloc (Nat.le_refl _) _
    have hS11 : (W10.alloc (.cells #[.slice (some ⟨g, 0, none⟩) ml ml] 116)).heap.size = q2 + 1 := by rw [hq2]; simp
    have hC11 : CebwC q2 g ml ml (tabTo d.back ml 0) (W10.alloc (.cells #[.slice (some ⟨g, 0, none⟩) ml ml] 116)) := ⟨by rw [hq2]; simp [go_sem], fun j hj k v hk => by
      have hk40 : k < 40 := by have := (List.getElem?_eq_some_iff.1 hk).1; rw [row40_len] at this; exact this
      rw [row40_at _ hk40] at hk
      rw [← hk]
      exact hA.on (HCT.out.c j k hj hk40)⟩
    have HB11 := Lib.hid (((HW9.out.grow HCT.out.be).grow hA).rebase)
    have HLT : Hid (g < q2 ∧ b9 + 1 < g ∧ W9.heap.size ≤ q2) := Lib.hid (by
      have h1 := World.block_lt_of_cell? _ _ (HCT.out.c 0 0 (by omega) (by omega))
      have h2 := HCT.out.ge
      have h3 := HLO.out
      have h4 := HCT.out.be.size
      exact ⟨by rw [hq2]; exact h1, by omega, by omega⟩)
    have hq3 := hA.on hq1
    have HM11 : Hid (MarksLt w.heap.size (q2 + 1) [markOf D] (W10.alloc (.cells #[.slice (some ⟨g, 0, none⟩) ml ml] 116))) := Lib.hid (by
      obtain ⟨Ds, h1, h2, h3⟩ := HM9.out
      exact ⟨Ds, h1, h2, fun E hE => ⟨(h3 E hE).1, by have := (h3 E hE).2.1; have := HLT.out; omega, (hA.block E (by have := (h3 E hE).2.1; have := HCT.out.be.size; omega)).trans ((HCT.out.be.block E (h3 E hE).2.1).trans (h3 E hE).2.2)⟩⟩)
    rw [hS11] at HB11
    rw [← hq2]
    clear hA hq1
    generalize W10.alloc (.cells #[.slice (some ⟨g, 0, none⟩) ml ml] 116) = W11 at hS11 hC11 HB11 hq3 HM11 ⊢
    have hW11 := Lib.hid hS11
    clear hq2 hS11 
    have HQ3 := Lib.hid hq3
    clear hq3
    obtain ⟨X, hXd⟩ : ∃ X, X = tabTo d.back ml 0 := ⟨_, rfl⟩
    rw [← hXd] at hC11
    have HXD := Lib.hid hXd
    clear hXd
    refine wp_rangeH (β := Nat) (xs := bk ml ml) (enc := encbwC X) rfl (enters_of Try.func97 (by kernel_rfl) rfl) (CebwC q2 g ml ml X)
      (back_iterC (by omega) hC11)
      (fun pre W5 => ∃ v9 T, Hid (BcM w W11 b9 (q2 + 1) v9 (pre.map (turnT rl X)) T W5) ∧ CebwC q2 g ml ml X W5 ∧ Hid (MarksLt w.heap.size (q2 + 1) [markOf D] W5))
      (fun _ _ _ => False) (fun _ _ h => by obtain ⟨_, _, _, h, _⟩ := h; exact h) (fun _ _ h hs => h.steady hs) ?sI2 (fun _ _ _ _ h _ => h)
      ⟨_, _, HB11, hC11, HM11⟩
      (fun z a' W5 => ∃ b12, Hid ((∀ j, j < 40 → W5.cell? ⟨b12, j, none⟩ = some (.int .i64 (X z j))) ∧ q2 + 1 ≤ b12) ∧ a' = { tmps := #[Value.agg #[Value.slice (some ⟨rb, ro, none⟩) rl rc], Value.agg #[Value.slice fa fl fc, Value.slice (some ⟨mb, mo, none⟩) ml mc], Value.pointer (some ⟨q, 0, none⟩), Value.pointer (some ⟨q + 1, 0, none⟩), Value.slice none 0 0, Value.pointer (some ⟨b5, 0, none⟩), Value.pointer (some ⟨b6, 0, none⟩), undef, undef, Value.pointer (some ⟨b9, 0, none⟩), Value.pointer (some ⟨b9 + 1, 0, none⟩), undef, .pointer (some ⟨b12, 0, none⟩), undef, Value.pointer (some ⟨q, 0, none⟩), Value.slice (some ⟨rb, ro, none⟩) rl rc, Value.slice (some ⟨g5, 0, none⟩) rl c5, Value.agg #[Value.slice (some ⟨g5, 0, none⟩) rl c5], Value.pointer (some ⟨b5, 0, none⟩), Value.slice (some ⟨g5, 0, none⟩) rl c5, Value.tuple #[], Value.pointer (some ⟨q + 1, 0, none⟩), Value.slice fa fl fc, Value.slice a6 fl c6, Value.agg #[Value.slice a6 fl c6, Value.slice none 0 0], Value.pointer (some ⟨b6, 0, none⟩), Value.slice a6 fl c6, Value.tuple #[], Value.pointer (some ⟨q + 1, 1, none⟩), Value.slice (some ⟨mb, mo, none⟩) ml mc, Value.func (Fn.func 96) #[] #[Value.pointer (some ⟨b8, 0, none⟩)], undef, undef, undef, undef, undef, undef, undef, undef, undef, undef, undef, undef, undef, undef, undef, Value.agg #[Value.slice (some ⟨g5, 0, none⟩) rl c5], Value.agg #[Value.slice a6 fl c6, v7], Value.slice (some ⟨g, 0, none⟩) ml ml, Value.func (Fn.func 97) #[] #[Value.pointer (some ⟨q2, 0, none⟩)], .int .i64 (z : Nat), .agg (row40 (X z)).toArray, undef, undef, undef, undef, undef, undef, undef, undef, undef, undef, undef, undef, undef, undef, undef, undef, undef, undef, undef, undef, undef, undef, undef], defers := [] }) ?sA (fun _ => rfl) ?assign2 ?body2 ?done2 ?stop2
    case sI2 =>
      rintro _ _ _ ⟨v9, T, h1, h2, h3⟩ hs
      rw [hW11.out] at hs
      exact ⟨v9, T, Lib.hid (h1.out.steady hs (by have := HLO.out; have := HLT.out; omega) (Nat.le_refl _)), h2.steady hs, Lib.hid (h3.out.steady hs)⟩
    case sA =>
      rintro z a' W5 W6 ⟨b12, h1, rfl⟩ hs
      exact ⟨b12, Lib.hid ⟨fun j hj => hs.cell (h1.out.1 j hj), h1.out.2⟩, rfl⟩
    case stop2 => rintro _ _ _ _ _ _ h; exact h.elim
    case assign2 =>
      rintro lp pre z W K hx ⟨v9, T, h1, h2, h3⟩ hK
      have HK := Lib.hid hK
      clear hK
      unfold encbwC
      rw [foldl_two]
      have HS := Lib.hid (store_new (W := W) #[.int .i64 0, .int .i64 0, .int .i64 0, .int .i64 0, .int .i64 0, .int .i64 0, .int .i64 0, .int .i64 0, .int .i64 0, .int .i64 0, .int .i64 0, .int .i64 0, .int .i64 0, .int .i64 0, .int .i64 0, .int .i64 0, .int .i64 0, .int .i64 0, .int .i64 0, .int .i64 0, .int .i64 0, .int .i64 0, .int .i64 0, .int .i64 0, .int .i64 0, .int .i64 0, .int .i64 0, .int .i64 0, .int .i64 0, .int .i64 0, .int .i64 0, .int .i64 0, .int .i64 0, .int .i64 0, .int .i64 0, .int .i64 0, .int .i64 0, .int .i64 0, .int .i64 0, .int .i64 0] rfl (X z))
      have hszr : (Try.prog.info? 119).map (·.size) = some (row40 (X z)).toArray.size := by rw [List.size_toArray, row40_len]; kernel_rfl
      gi_wp2_with (refine wpListIn_store_mid rfl 119 _ _ rfl W.heap.size 0 (row40 (X z)).toArray rfl rfl HS.out.1 hszr (all_oneCell_toArray (row40_one _)) ?_)
      refine HK.out _ _ ?_ ?_ ?_
      · exact (keeps_of_below HS.out.2.1).from _
      · exact ⟨v9, T, Lib.hid (h1.out.grow HS.out.2.1), h2.below HS.out.2.1, Lib.hid (h3.out.keeps (keeps_of_below HS.out.2.1))⟩
      · exact ⟨W.heap.size, Lib.hid ⟨HS.out.2.2, h1.out.sz⟩, rfl⟩
    case body2 =>
      rintro lp pre z a' W4 hx hlen ⟨v9, T, h1, h2, h3⟩ ⟨b12, hb12, rfl⟩
      have hzl : z < ml := bk_lt ml ml z hx (Nat.le_refl _)
      obtain ⟨a9, c9, rfl⟩ : ∃ a c, v9 = .slice a (pre.map (turnT rl X)).length c := by
        rcases h1.out.o9.2 with ⟨e1, e2⟩ | ⟨g, cap, cur, e1, -⟩
        · exact ⟨none, 0, by rw [e1, e2]⟩
        · exact ⟨_, cap, e1⟩
      have hpl : (pre.map (turnT rl X)).length ≤ 40 := by
        rw [bk_len] at hlen
        rw [List.length_map]; omega
      obtain ⟨pl, hpl2⟩ : ∃ x, x = (pre.map (turnT rl X)).length := ⟨_, rfl⟩
      rw [← hpl2] at hpl
      have HPL := Lib.hid hpl2
      have h1p : Hid (BcM w W11 b9 (q2 + 1) (.slice a9 pl c9) (pre.map (turnT rl X)) T W4) := Lib.hid (by rw [hpl2]; exact h1.out)
      have hcl : ∀ ty, (Builtin.clear_ #[25] ty #[.slice (some ⟨b9 + 1, 0, none⟩) 40 40]).run Try.prog W4 = .ok (.tuple #[]) (W4.setCells (b9 + 1) 0 (row40 fun _ => 0)) := fun ty =>
        Lib.run_clear_slice W4 25 3 ty (.int .i64 0) Try.underlying25 zero_int rfl rfl (b9 + 1) 0 40 40 (by decide) (fun j hj => by rw [Nat.zero_add, h1p.out.la j hj]; rfl) (fun j hj => h1p.out.lf _)
      clear hpl2 hlen hx h1
      have h4 := Lib.hid (h1p.out.lay (fun _ => 0))
      have hk4 := Lib.hid (keeps_setCells (b9 + 1) (row40 fun _ => 0) 0 W4)
      have hb5 : Hid (∀ j, j < 40 → (W4.setCells (b9 + 1) 0 (row40 fun _ => 0)).cell? ⟨b12, j, none⟩ = some (.int .i64 (X z j))) := Lib.hid (fun j hj => by
        rw [World.cell?_setCells_out _ _ _ _ _ (fun e _ => absurd e (by show b12 ≠ b9 + 1; have := hb12.out.2; have := HLT.out; omega))]; exact hb12.out.1 j hj)
      have y0 : (W4.setCells (b9 + 1) 0 (row40 fun _ => 0)).cell? ⟨q, 0, none⟩ = some (.slice (some ⟨rb, ro, none⟩) rl rc) := (h4.out.like ⟨q, 0, none⟩ (by show q < _; have := HLO.out; have := HLT.out; omega) (by show q ≠ _; have := HLO.out; omega) (by show q ≠ _; have := HLO.out; omega)).trans HQ3.out
      dsimp only
      gi_wp2_with fail
      clear hcl
      generalize W4.setCells (b9 + 1) 0 (row40 fun _ => 0) = W5 at h4 hk4 hb5 y0 ⊢
      gi_loopw [57] (fun bv wr => ∃ b : Nat, b ≤ rl + 1 ∧ bv = .int .i64 b ∧ Hid (BcM w W11 b9 (q2 + 1) (.slice a9 pl c9) (pre.map (turnT rl X)) (partT rl (X z) b) wr) ∧ Hid (KeepsOthers W4 wr) ∧ Hid (∀ j, j < 40 → wr.cell? ⟨b12, j, none⟩ = some (.int .i64 (X z j)))) (fun bv _ => rl + 1 - (intOf bv).toNat)
      case atStart => exact ⟨0, Nat.zero_le _, by go_num, by rw [partT_zero]; exact h4, hk4, hb5⟩
      case round =>
        clear y0 hb5 hk4 h4
        obtain ⟨b, hb, rfl, h4, hk4, hb5⟩ := hrel
        have y0 : wr.cell? ⟨q, 0, none⟩ = some (.slice (some ⟨rb, ro, none⟩) rl rc) := (h4.out.like ⟨q, 0, none⟩ (by show q < _; have := HLO.out; have := HLT.out; omega) (by show q ≠ _; have := HLO.out; omega) (by show q ≠ _; have := HLO.out; omega)).trans HQ3.out
        by_cases hlt : b < rl + 1
        · have g1 : decide ((b : Int) < (rl : Int) + 1) = true := decide_eq_true (by omega)
          obtain ⟨e, he⟩ : ∃ e : Nat, e = rl - b := ⟨_, rfl⟩
          have hwe : IntKind.i64.wrap ((rl : Int) - b) = (e : Int) := by rw [IntWalk.i64_in _ (by omega)]; omega
          have he40 : e < 40 := by omega
          have hb40 : b < 40 := by omega
          have hei : (e : Int) < 40 := by omega
          have hbi : (b : Int) < 40 := by omega
          have ce := hb5.out e he40
          have cb := h4.out.la b hb40
          have fb := h4.out.lf b
          have h5 : Hid (BcM w W11 b9 (q2 + 1) (.slice a9 pl c9) (pre.map (turnT rl X)) (partT rl (X z) (b + 1)) (wr.setCell ⟨b9 + 1, b, none⟩ (.int .i64 (X z e)))) := Lib.hid (by
            have h := h4.out.put hb40 (X z e)
            rw [he, partT_put] at h
            rw [he]; exact h)
          have hb6 : Hid (∀ j, j < 40 → (wr.setCell ⟨b9 + 1, b, none⟩ (.int .i64 (X z e))).cell? ⟨b12, j, none⟩ = some (.int .i64 (X z j))) := Lib.hid (fun j hj => by
            rw [World.cell?_setCell_other _ _ _ _ (fun e' => by have := congrArg Addr.block e'; simp only at this; have := hb12.out.2; have := HLT.out; omega)]; exact hb5.out j hj)
          have hk6 := Lib.hid (hk4.out.trans (KeepsOthers.setCell wr ⟨b9 + 1, b, none⟩ (.int .i64 (X z e))))
          clear he
          gi_wp2_with fail
          exact ⟨⟨b + 1, by omega, by go_num, h5, hk6, hb6⟩, by simp [intOf]; omega⟩
        · obtain rfl : b = rl + 1 := by omega
          have g1 : decide (((rl + 1 : Nat) : Int) < (rl : Int) + 1) = false := decide_eq_false (by omega)
          have hT := Lib.hid (partT_all rl X z)
          have h5 : Hid (BcM w W11 b9 (q2 + 1) (.slice a9 pl c9) (pre.map (turnT rl X)) (turnT rl X z) wr) := Lib.hid (by have h := h4.out; rw [hT.out] at h; exact h)
          have c9' := h5.out.c9
          have hrng := h5.out.range
          obtain ⟨i0, hi, hz0, hz1, hz2⟩ := info_parts Try.infoCounts
          have HIN := Lib.hid (And.intro hi (And.intro hz0 (And.intro hz1 hz2)))
          have hsz : (Try.prog.info? 119).map (·.size) = some (row40 (turnT rl X z)).length := by rw [row40_len]; kernel_rfl
          have HTN : Hid (pre.map (turnT rl X) ++ [turnT rl X z] = (pre ++ [z]).map (turnT rl X)) := Lib.hid (by simp)
          have H7 : Hid (wr.ownsRow (q2 + 1) 119 40 (.slice a9 pl c9) pl ((pre.map (turnT rl X)).flatMap row40) ∧ q2 + 1 ≤ wr.heap.size) := Lib.hid (by have h := h5.out.o9; rw [← HPL.out] at h; exact ⟨h, h5.out.sz⟩)
          clear hi hz0 hz1 hz2 h4 hT
          obtain ⟨Tz, hTz⟩ : ∃ T, T = turnT rl X z := ⟨_, rfl⟩
          rw [← hTz] at h5 hrng hsz HTN
          clear hTz
          have hz40 : (Value.agg (List.replicate 40 (Value.int .i64 0)).toArray).cells.size = 40 := rfl
          gi_wp2_with (first
            | (refine wpListIn_load_mid rfl 119 _ rfl (b9 + 1) 0 rfl (row40 Tz) _ hrng Try.underlying119 rfl hsz ?_; clear hrng hsz)
            | (refine wpListIn_build_row rfl _ rfl Tz rfl ?_)
            | (gi_at_builtin; refine wpListIn_append_own_at _ rfl _ _ 116 rfl (q2 + 1) 119 i0 (.agg (List.replicate 40 (Value.int .i64 0)).toArray) 40 320 Try.underlying116 HIN.out.1 HIN.out.2.1 HIN.out.2.2.1 HIN.out.2.2.2 hz40 (by decide) _ _ _ rfl (H7.out.1.alloc _) ⟨wr.heap.size, 0, none⟩ 1 1 (row40 Tz) rfl (row40_len Tz) (cells_new _ _ _ rfl) (row40_one Tz) (by unfold maxLen; omega) (by omega) (by have := H7.out.2; simp; omega) ?_; intro v' w3 hown hgr _ _; obtain ⟨g9, d9, hv9⟩ := ownsRow_succ hown; have HZ := Lib.hid (h5.out.all HPL.out hown hgr); rw [hv9] at HZ ⊢; obtain ⟨x7, y7⟩ := And.intro HZ.out.2.1 HZ.out.2.2.1; clear hown hgr hv9))
          exact ⟨(hk4.out.trans HZ.out.2.2.2).from _, ⟨_, _, Lib.hid (by rw [← HTN.out]; exact HZ.out.1)⟩, hC11.like HZ.out.1.like (by omega) (by have := HLT.out; omega) (by have := HLT.out; omega) (by have := HLT.out; omega), Lib.hid (h3.out.keeps (hk4.out.trans HZ.out.2.2.2))⟩
    case done2 =>
      rintro D2 W12 hD2 ⟨v9, T, h1, h2, h3⟩ hk2
      have c9 := h1.out.c9
      have hm := h3.out.cons (S := w.heap.size) (by have := HLO.out; have := HLT.out; omega) (by rw [← hW11.out]; exact hD2) hk2
      have HR9 : Hid ((bk ml ml).map (turnT rl X) = (bk ml ml).map (turnT d.r.length (tabTo d.back d.m.length 0)) ∧ ml = d.m.length) := Lib.hid ⟨by rw [HXD.out, HL.out.1, HL.out.2.2], HL.out.2.2⟩
      clear h2 h3 hk2 hD2
      go_wp2_with fail
      refine leaves_marks (B := w.heap.size) _ hm (fun w' hs => ⟨_, results_one (fn := Try.f61) rfl _ _ rfl, v9, rfl, h1.out.be.steady hs (Nat.le_refl _) h1.out.be.size, ((bk ml ml).map (turnT rl X)).flatMap row40, ?_, fun k y hk hy => ?_⟩)
      · have h := hs.owns h1.out.o9
        rw [List.length_map, bk_len] at h
        exact owns_mono h (by have := HLO.out; have := HLT.out; omega)
      · rw [flat40 _ _ _ hy (by rw [List.length_map, bk_len]; exact hk), HR9.out.1]
        congr 2
        rw [HR9.out.2, List.getD_eq_getElem?_getD, List.getElem?_map, bk_get _ _ _ (by rw [← HR9.out.2]; exact hk)]
        rfl
  case body =>
    rintro lp pre z W4 hx hlen ⟨v7, h1, h2⟩
    have hzl : z < ml := by
      have h3 : ∀ n m x, x ∈ bk n m → m ≤ n → x < n := fun n m => by
        induction m with
        | zero => intro x h; cases h
        | succ m ih =>
          intro x h hm
          rcases List.mem_append.1 h with h | h
          · exact ih x h (by omega)
          · have : x = n - 1 - m := by simpa using h
            omega
      exact h3 ml ml z hx (Nat.le_refl _)
    obtain ⟨xv, hxv⟩ : ∃ x, x = d.m.getD z (-1) := ⟨_, rfl⟩
    have hb0 : -1 ≤ xv ∧ xv ≤ (rl : Int) := by
      have hz' : z < d.m.length := by have := HL.out; omega
      have h3 := HD.out.2 _ (List.getElem_mem hz')
      rw [hxv, List.getD_eq_getElem?_getD, List.getElem?_eq_getElem hz', HL.out.1]
      exact h3
    have HXV := Lib.hid hxv
    rw [← hxv]
    have d0 : W4.cell? ⟨q, 0, none⟩ = some (.slice (some ⟨rb, ro, none⟩) rl rc) := (h1.out.like ⟨q, 0, none⟩ (by show q < b8 + 1; have := HN6.out; have := hN8.out; omega) (fun e => by have := congrArg Addr.block e; simp only at this; have := HN6.out; omega)).trans HF8.out.1
    have n7 := h1.out.n7
    have f7 := h1.out.f7
    obtain ⟨a7, c7, rfl⟩ : ∃ a c, v7 = .slice a (pre.map (tnum d)).length c := by
      rcases h1.out.o7.2 with ⟨e1, e2⟩ | ⟨g, cap, cur, e1, -⟩
      · exact ⟨none, 0, by rw [e1, e2]⟩
      · exact ⟨_, cap, e1⟩
    have hpl : (pre.map (tnum d)).length ≤ 40 := by
      have h4 : ∀ m, (bk ml m).length = m := fun m => by
        induction m with
        | zero => rfl
        | succ m ih => rw [bk, List.length_append, ih]; rfl
      rw [h4] at hlen
      rw [List.length_map]; omega
    obtain ⟨pl, hpl2⟩ : ∃ x, x = (pre.map (tnum d)).length := ⟨_, rfl⟩
    rw [← hpl2] at n7 hpl
    have HPL := Lib.hid hpl2
    have h1p : Hid (BhM w W8 b6 (b8 + 1) (.slice a7 pl c7) (pre.map (tnum d)) W4) := Lib.hid (by rw [hpl2]; exact h1.out)
    obtain ⟨i0, hi, hz0, hz1, hz2⟩ := info_parts Try.infoInt
    have HIN := Lib.hid (And.intro hi (And.intro hz0 (And.intro hz1 hz2)))
    obtain ⟨tn, htn⟩ : ∃ x, x = tnum d z := ⟨_, rfl⟩
    have HTN : Hid (pre.map (tnum d) ++ [tn] = (pre ++ [z]).map (tnum d)) := Lib.hid (by rw [htn]; simp)
    have H7 : Hid (W4.ownsRow (b8 + 1) 3 1 (.slice a7 pl c7) pl (ints (pre.map (tnum d))) ∧ b8 + 1 ≤ W4.heap.size) := Lib.hid (by have h := h1.out.o7; rw [← hpl2] at h; exact ⟨h, h1.out.sz⟩)
    clear hpl2 hlen hi hz0 hz1 hz2 hx
    by_cases hm1 : xv = -1
    · have g1 : (xv != -1) = false := by simp [hm1]
      have HT : Hid (tn = xv) := Lib.hid (by rw [htn, tnum, ← HXV.out, if_pos hm1, hm1])
      clear hm1 htn hxv
      gi_wp2_with (gi_at_builtin; refine wpListIn_append_own_at _ rfl _ _ 25 rfl (b8 + 1) 3 i0 (.int .i64 0) 1 8 Try.underlying25 HIN.out.1 HIN.out.2.1 HIN.out.2.2.1 HIN.out.2.2.2 rfl (by decide) _ _ _ rfl (H7.out.1.alloc _) ⟨W4.heap.size, 0, none⟩ 1 1 [.int .i64 xv] rfl rfl (cell_one_new _ _ _) (by simp [Value.oneCell']) (by unfold maxLen; omega) (by omega) (by have := H7.out.2; simp; omega) ?_; intro v' w3 hown hgr _ _; obtain ⟨g9, c9, hv9⟩ := ownsRow_succ hown; have HZ := Lib.hid (h1p.out.all HPL.out hown hgr); rw [hv9] at HZ ⊢; obtain ⟨x7, y7⟩ := And.intro HZ.out.2.1 HZ.out.2.2.1; clear hown hgr hv9)
      refine ⟨HZ.out.2.2.2.from _, _, Lib.hid (by rw [← HTN.out]; first | exact HZ.out.1 | (rw [HT.out]; exact HZ.out.1)), hC8.like HZ.out.1.like (by omega) (by have := hN8.out; omega) (by have := hN8.out; omega) (by have := hN8.out; omega)⟩
    · have g1 : (xv != -1) = true := by simp [hm1]
      have hwn : IntKind.i64.wrap ((rl : Int) - xv) = tn := by
        rw [IntWalk.i64_in _ (by omega), htn, tnum, ← HXV.out, if_neg hm1, HL.out.1]
      clear hm1 htn hxv
      gi_wp2_with (gi_at_builtin; refine wpListIn_append_own_at _ rfl _ _ 25 rfl (b8 + 1) 3 i0 (.int .i64 0) 1 8 Try.underlying25 HIN.out.1 HIN.out.2.1 HIN.out.2.2.1 HIN.out.2.2.2 rfl (by decide) _ _ _ rfl (H7.out.1.alloc _) ⟨W4.heap.size, 0, none⟩ 1 1 [.int .i64 tn] rfl rfl (cell_one_new _ _ _) (by simp [Value.oneCell']) (by unfold maxLen; omega) (by omega) (by have := H7.out.2; simp; omega) ?_; intro v' w3 hown hgr _ _; obtain ⟨g9, c9, hv9⟩ := ownsRow_succ hown; have HZ := Lib.hid (h1p.out.all HPL.out hown hgr); rw [hv9] at HZ ⊢; obtain ⟨x7, y7⟩ := And.intro HZ.out.2.1 HZ.out.2.2.1; clear hown hgr hv9)
      refine ⟨HZ.out.2.2.2.from _, _, Lib.hid (by rw [← HTN.out]; first | exact HZ.out.1 | (rw [HT.out]; exact HZ.out.1)), hC8.like HZ.out.1.like (by omega) (by have := hN8.out; omega) (by have := hN8.out; omega) (by have := hN8.out; omega)⟩
end Go.Proofs.Ytohjinbgbfggcaa
