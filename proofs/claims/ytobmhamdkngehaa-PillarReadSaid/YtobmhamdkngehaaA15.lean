/-
  Parts of the proof, in the order in which they build: QiK.
-/
import Derived.Test.YtobmhamdkngehaaA13
import Derived.Test.YtobmhamdkngehaaA6
set_option linter.unusedVariables false
set_option linter.unusedSimpArgs false
namespace Go.Proofs.Ytobmhamdkngehaa
open Go.RowKit Go.Shelf
open Lim
attribute [local go_sem] Oper.semAt_some

theorem results_two {P : Program} {fn : Func} {p q : Tmp} (h : fn.results = #[.tmp p, .tmp q]) (tmps : Array Value) (w : World) {u v : Value} (hu : tmps.getD p undef = u) (hv : tmps.getD q undef = v) : (results fn tmps).run P w = .ok (.tuple #[u, v]) w := by
  subst hu hv
  simp [results, h]
/-- what lies in memory while Levels runs -/
structure LvM (w : World) (b n ac q6 g : Nat) (a : Option Addr) (S : Nat → Nat → Bool) (l : List Int) (W : World) : Prop where
  be : Below w.heap.size w W
  wk : WkN b n ac a S W
  c6 : W.cell? ⟨q6, 0, none⟩ = some (.slice (some ⟨g, 0, none⟩) n n)
  ow : W.ownsRow w.heap.size 3 1 (.slice (some ⟨g, 0, none⟩) n n) n (ints l)
  ne : b ≠ g ∧ q6 ≠ g
section
variable {w : World} {b n ac q6 g : Nat} {a : Option Addr} {S : Nat → Nat → Bool} {l : List Int} {W W' : World}
theorem LvM.ge (h : LvM w b n ac q6 g a S l W) : w.heap.size ≤ g ∧ g < W.heap.size := h.ow.lt g rfl
theorem LvM.grow (h : LvM w b n ac q6 g a S l W) (hb : Below W.heap.size W W') : LvM w b n ac q6 g a S l W' :=
  ⟨h.be.trans (hb.mono h.be.size), h.wk.grow hb, hb.on h.c6, owns_below h.ow hb, h.ne⟩
theorem LvM.steady (h : LvM w b n ac q6 g a S l W) {B : Nat} (hs : Steady B W W') (hB : w.heap.size ≤ B) : LvM w b n ac q6 g a S l W' :=
  ⟨h.be.steady hs hB h.be.size, h.wk.steady hs, hs.cell h.c6, hs.owns h.ow, h.ne⟩
theorem LvM.drew' (h : LvM w b n ac q6 g a S l W) : LvM w b n ac q6 g a S l W.drew := h.grow (Below.refl _ W).drew
theorem LvM.cell (h : LvM w b n ac q6 g a S l W) (hl : l.length = n) {j : Nat} (hj : j < n) : W.cell? ⟨g, j, none⟩ = some (.int .i64 (l.getD j 0)) := by
  have := h.ow.cells (g := g) rfl j _ (ints_at' l j (by omega))
  rw [Addr.add_lit, Nat.zero_add] at this
  rw [this, ← List.getD_eq_getElem?_getD]
theorem LvM.put (h : LvM w b n ac q6 g a S l W) (j : Nat) (v : Int) : LvM w b n ac q6 g a S (l.set j v) (W.setCell ⟨g, j, none⟩ (.int .i64 v)) := by
  have far : ∀ {q o : Nat} {u : Value}, q ≠ g → W.cell? ⟨q, o, none⟩ = some u → (W.setCell ⟨g, j, none⟩ (.int .i64 v)).cell? ⟨q, o, none⟩ = some u := fun {q o u} hne hc => by
    rw [setCell_farP _ _ (fun e => hne e.symm)]; exact hc
  refine ⟨h.be.setCell (p := ⟨g, j, none⟩) h.ge.1 _, ⟨far h.ne.1 h.wk.c0, fun i k hi hk => far h.ne.1 (h.wk.s i k hi hk)⟩, far h.ne.2 h.c6, ?_, h.ne⟩
  have h1 := (h.ow.stored j (.int .i64 v)).1
  rw [show ints (l.set j v) = (ints l).set j (.int .i64 v) from by unfold ints; rw [List.map_set]]
  exact h1
end
/-- the frame of Levels while its loop runs -/
def FrL (b n q q6 i : Nat) (a : Act) : Prop :=
  a = { tmps := #[Lim.sl a 0, .pointer (some ⟨q, 0, none⟩), .slice none 0 0, .int .i64 0, .pointer (some ⟨b, 0, none⟩), .int .i64 0, .pointer (some ⟨q6, 0, none⟩), Lim.sl a 7, Lim.sl a 8, Lim.sl a 9, Lim.sl a 10, Lim.sl a 11, Lim.sl a 12, Lim.sl a 13, Lim.sl a 14, Lim.sl a 15, Lim.sl a 16, Lim.sl a 17, Lim.sl a 18, Lim.sl a 19, Lim.sl a 20, Lim.sl a 21, Lim.sl a 22, Lim.sl a 23, Lim.sl a 24, Lim.sl a 25, .int .i64 n, .int .i64 i, Lim.sl a 28, Lim.sl a 29, Lim.sl a 30, Lim.sl a 31, Lim.sl a 32, Lim.sl a 33, Lim.sl a 34, Lim.sl a 35, Lim.sl a 36, Lim.sl a 37, Lim.sl a 38, Lim.sl a 39, Lim.sl a 40, Lim.sl a 41, Lim.sl a 42, Lim.sl a 43, Lim.sl a 44, Lim.sl a 45, Lim.sl a 46, Lim.sl a 47, Lim.sl a 48], defers := a.defers }
theorem LevTo.congr {n : Nat} {S S' : Nat → Nat → Bool} (hS : ∀ i j, i < j → j < n → S i j = S' i j) {k : Nat} {l : List Int} (h : LevTo n S k l) : LevTo n S' k l :=
  ⟨h.len, fun j hj hlt => let ⟨L, h1, h2⟩ := h.hit j hj hlt; ⟨L, h1.congr hS, h2⟩, h.top, h.zero, fun i j hi hij hj hs => h.done i j hi hij hj (by rw [hS i j hij hj]; exact hs)⟩
theorem LevTo.begin (n : Nat) (S : Nat → Nat → Bool) : LevTo n S 0 ((List.replicate n (40 : Int)).set 0 0) := by
  have get : ∀ j, j < n → ((List.replicate n (40 : Int)).set 0 0).getD j 0 = if j = 0 then 0 else 40 := fun j hj => by
    rw [lev_get]
    by_cases e : j = 0
    · subst e; rw [if_pos rfl, if_pos ⟨rfl, by simpa using hj⟩]
    · rw [if_neg e, if_neg (fun h => e h.1.symm), List.getD_eq_getElem?_getD, List.getElem?_replicate_of_lt hj, Option.getD_some]
  refine ⟨by simp, fun j hj hlt => ?_, fun j hj => ?_, fun h0 => by rw [get 0 h0]; rfl, fun i j hi => absurd hi (Nat.not_lt_zero i)⟩
  · rw [get j hj] at hlt ⊢
    by_cases e : j = 0
    · subst e; exact ⟨[0], .one, by simp⟩
    · rw [if_neg e] at hlt; omega
  · rw [get j hj]; split <;> omega
/-- what Levels answers -/
def LevAns (w : World) (p : Pf) (e : Ending) (w' : World) : Prop :=
  Below w.heap.size w w' ∧ ((p.err ≠ 0 ∧ e = .returned (.tuple #[.slice none 0 0, .int .i64 p.err])) ∨
    (p.err = 0 ∧ ∃ v l, e = .returned (.tuple #[v, .int .i64 0]) ∧ w'.ownsRow w.heap.size 3 1 v p.n (ints l) ∧ LevTo p.n p.sure p.n l))
set_option maxRecDepth 100000 in
set_option maxHeartbeats 2000000 in
theorem Levels_any {B : Nat} {p : Pf} {av gv : Value} {w : World} (hB : B ≤ w.heap.size) (ha : RS B w av p.ats.length (ints p.ats)) (hg : RS B w gv p.gr.length (spans p.gr)) :
    Calls Try.prog 54 #[.agg #[av, gv, .int .i64 p.tall, .int .i64 p.lo, .int .i64 p.hi]] w (LevAns w p) := by
  have HR := Lib.hid (And.intro hB (And.intro ha hg))
  obtain ⟨tl, htl⟩ : ∃ x, x = p.tall := ⟨_, rfl⟩
  obtain ⟨lo, hlo⟩ : ∃ x, x = p.lo := ⟨_, rfl⟩
  obtain ⟨hi, hhi⟩ : ∃ x, x = p.hi := ⟨_, rfl⟩
  have HOP : Hid (∀ W, Below w.heap.size w W → Calls Try.prog 79 #[.agg #[av, gv, .int .i64 tl, .int .i64 lo, .int .i64 hi]] W (OpAns W p av gv)) := Lib.hid fun W hW => by
    rw [htl, hlo, hhi]
    exact opened_any (Nat.le_trans hB hW.size) (ha.below (hW.mono hB)) (hg.below (hW.mono hB))
  rw [← htl, ← hlo, ← hhi]
  have HT := Lib.hid (And.intro htl (And.intro hlo hhi))
  have HM : Hid (Below w.heap.size w (w.alloc (.cells #[av, gv, .int .i64 tl, .int .i64 lo, .int .i64 hi] 27)) ∧ (w.alloc (.cells #[av, gv, .int .i64 tl, .int .i64 lo, .int .i64 hi] 27)).heap[w.heap.size]? = some (.cells #[av, gv, .int .i64 tl, .int .i64 lo, .int .i64 hi] 27 (0, 0))) := Lib.hid ⟨(Below.refl _ w).alloc (Nat.le_refl _) _, heap_alloc_newP w _⟩
  clear hB htl hlo hhi ha hg
  refine (callsIn_wide (n := 2)).1 (callsIn_of_wp_marks Try.func54 rfl trivial ?_ rfl)
  simp only [Try.ntmps54, List.size_toArray, List.length_cons, List.length_nil, Nat.reduceAdd, Nat.reduceSub, Array.replicate_succ, Array.replicate_zero, List.push_toArray, List.append_toArray, List.nil_append, List.cons_append]
  refine wpIn_wide.2 ?_
  go_upto_region 1 with (fail)
  obtain ⟨q, hq⟩ : ∃ q, q = w.heap.size := ⟨_, rfl⟩
  have HQ := Lib.hid hq.symm
  rw [← hq] at HM
  simp only [← hq]
  clear hq
  generalize w.alloc (.cells #[av, gv, .int .i64 tl, .int .i64 lo, .int .i64 hi] 27) = w1 at HM ⊢
  obtain ⟨⟨k0, k1, k2, k3, k4⟩, -⟩ := five_cells HM.out.2
  have HW1 : Hid (Below w.heap.size w w1) := Lib.hid (by rw [HQ.out]; exact HM.out.1)
  go_wp2_with fail
  refine (HOP.out _ HW1.out).mono ?_
  rintro e w2 ⟨hb2, hans⟩
  have hk0 := hb2.on k0
  clear k0 k1 k2 k3 k4
  have HB2 : Hid (Below w.heap.size w w2) := Lib.hid (HW1.out.trans (hb2.mono HW1.out.size))
  clear hb2
  rcases hans with ⟨hne, rfl⟩ | ⟨he, b, rfl, hge, hc, hk⟩
  · obtain ⟨er, her⟩ : ∃ x, x = p.err := ⟨_, rfl⟩
    have HER := Lib.hid (And.intro her hne)
    rw [← her] at hne ⊢
    clear her
    have d1 : (er != 0) = true := by simp [hne]
    clear hne
    go_wp2
    refine leaves_marks (B := w.heap.size) _ (Marks.nil _ _) (fun w' hs => ⟨_, results_two (fn := Try.f54) rfl _ _ rfl rfl, HB2.out.steady hs (Nat.le_refl _) HB2.out.size, .inl ⟨HER.out.2, by rw [← HER.out.1]; rfl⟩⟩)
  · have HP : Hid p.Ok := Lib.hid (err_ok he)
    have HE0 := Lib.hid (And.intro he hge)
    obtain ⟨ab, ao, ac, gb, go, gc, rfl, rfl, hl⟩ := pf_lists HP.out HR.out.2.1 HR.out.2.2
    obtain ⟨n, hn⟩ : ∃ x, x = p.n := ⟨_, rfl⟩
    have HW : Hid (WkN b n ac (some ⟨ab, ao, none⟩) (suTo p p.n 0) w2) := Lib.hid ⟨by rw [hn]; exact hc.c0, fun i j hi hj => hk.s i j hi hj⟩
    rw [← hn] at hk0 ⊢
    have HN : Hid (n = p.n) := Lib.hid hn
    have n40 : n ≤ 40 := by rw [hn]; exact HP.out.n40
    have n2 : 2 ≤ n := by rw [hn]; exact HP.out.n2
    have hk1 : (w2.alloc (.cells #[.int .i64 40] 3)).cell? ⟨q, 0, none⟩ = some (.slice (some ⟨ab, ao, none⟩) n ac) := cell_al _ hk0
    have HRP := Lib.hid (repeat_any (b := w2.heap.size) (c := 1) (n := n) (x := 40) (w := w2.alloc (.cells #[.int .i64 40] 3)) n40 (by omega) (by simp [go_sem]))
    clear hn hc hk hl he hge
    go_wp2_with fail
    refine HRP.out.mono ?_
    rintro e w3 ⟨g, rfl, hRP⟩
    clear HRP hk1
    have HL0 : Hid (LvM w b n ac w3.heap.size g (some ⟨ab, ao, none⟩) (suTo p p.n 0) (List.replicate n 40) (w3.alloc (.cells #[.slice (some ⟨g, 0, none⟩) n n] 22)) ∧ q < g) := Lib.hid (by
      have b1 : Below w2.heap.size w2 (w2.alloc (.cells #[.int .i64 40] 3)) := (Below.refl _ w2).alloc (Nat.le_refl _) _
      have b2 := hRP.be
      have b3 : Below w3.heap.size w3 (w3.alloc (.cells #[.slice (some ⟨g, 0, none⟩) n n] 22)) := (Below.refl _ w3).alloc (Nat.le_refl _) _
      have b12 : Below w2.heap.size w2 w3 := b1.trans (b2.mono b1.size)
      have hge := hRP.ge
      have ho := hRP.owns
      have hlt := (ho.lt g rfl).2
      have hs1 := b1.size
      have hs2 := HB2.out.size
      have hbl := HW.out.lt
      have hql := World.block_lt_of_cell? _ _ hk0
      have hq2 : q < w2.heap.size := hql
      refine ⟨⟨(HB2.out.trans (b12.mono hs2)).trans (b3.mono (Nat.le_trans hs2 b12.size)), (HW.out.grow b12).grow b3, by simp [go_sem], owns_mono (owns_below ho b3) (by omega), by omega, by omega⟩, by omega⟩)
    have hkq : (w3.alloc (.cells #[.slice (some ⟨g, 0, none⟩) n n] 22)).cell? ⟨q, 0, none⟩ = some (.slice (some ⟨ab, ao, none⟩) n ac) := by
      have b1 : Below w2.heap.size w2 (w2.alloc (.cells #[.int .i64 40] 3)) := (Below.refl _ w2).alloc (Nat.le_refl _) _
      exact cell_al _ ((b1.trans (hRP.be.mono b1.size)).on hk0)
    have hf0 := HL0.out.1.ow.frozenAt 0
    have hc0 := HL0.out.1.cell (by simp) (j := 0) (by omega)
    have hkq2 : ((w3.alloc (.cells #[.slice (some ⟨g, 0, none⟩) n n] 22)).setCell ⟨g, 0, none⟩ (.int .i64 0)).cell? ⟨q, 0, none⟩ = some (.slice (some ⟨ab, ao, none⟩) n ac) := by rw [setCell_farP _ _ (by have := HL0.out.2; omega)]; exact hkq
    clear hRP hk0
    go_wp2_with fail
    have HL1 : Hid (LvM w b n ac w3.heap.size g (some ⟨ab, ao, none⟩) (suTo p p.n 0) ((List.replicate n 40).set 0 0) ((w3.alloc (.cells #[.slice (some ⟨g, 0, none⟩) n n] 22)).setCell ⟨g, 0, none⟩ (.int .i64 0))) := Lib.hid (HL0.out.1.put 0 0)
    generalize (w3.alloc (.cells #[.slice (some ⟨g, 0, none⟩) n n] 22)).setCell ⟨g, 0, none⟩ (.int .i64 0) = W0 at HL1 hkq2 ⊢
    obtain ⟨q6, hq6⟩ : ∃ x, x = w3.heap.size := ⟨_, rfl⟩
    rw [← hq6] at HL1 ⊢
    have HLV : Hid (LevTo n (suTo p p.n 0) 0 ((List.replicate n (40 : Int)).set 0 0)) := Lib.hid (LevTo.begin n _)
    generalize (List.replicate n (40 : Int)).set 0 0 = l0 at HL1 HLV
    obtain ⟨S, hS⟩ : ∃ S, S = suTo p p.n 0 := ⟨_, rfl⟩
    have HS := Lib.hid hS
    rw [← hS] at HL1 HLV
    clear hq6 hkq hf0 hc0 HL0 HW hS hkq2 HOP HM
    refine wp_loop_ghost_k (fun m a' W => ∃ (i : Nat) (l : List Int), FrL b n q q6 i a' ∧ Marks w.heap.size a'.defers W ∧ Hid (LvM w b n ac q6 g (some ⟨ab, ao, none⟩) S l W ∧ LevTo n S i l ∧ m = n - i ∧ i ≤ n)) n ⟨0, l0, rfl, Marks.nil _ _, Lib.hid ⟨HL1.out, HLV.out, rfl, Nat.zero_le _⟩⟩ ?_
    clear HL1 HLV
    rintro m a' W ⟨i, l, hfr, hm, hI⟩ J K hJ hK
    unfold FrL at hfr
    generalize a'.defers = ds at hfr hm
    generalize Lim.sl a' = x at hfr
    subst hfr
    have c6 := hI.out.1.c6
    by_cases hlt : i < n
    · have g1 : decide ((i : Int) < n) = true := decide_eq_true (by omega)
      go_wp2_with (go_at_call 94; refine (ahead_any _ _ _ ⟨_, rfl⟩ ⟨_, rfl⟩).mono ?_; rintro e w' ⟨rfl, rfl⟩)
      obtain ⟨q7, hq7⟩ : ∃ x, x = W.heap.size := ⟨_, rfl⟩
      have bW : Below W.heap.size W (W.alloc (.cells #[.int .i64 i] 3)) := (Below.refl _ W).alloc (Nat.le_refl _) _
      have hI2 := Lib.hid (And.intro (hI.out.1.grow bW) (And.intro hI.out.2 (And.intro bW.size hI.out.1.ge)))
      have hm2 := hm.keep (keeps_of_below bW)
      have c7 : (W.alloc (.cells #[.int .i64 i] 3)).cell? ⟨W.heap.size, 0, none⟩ = some (.int .i64 i) := by simp [go_sem]
      have hsz2 : (W.alloc (.cells #[.int .i64 i] 3)).heap.size = q7 + 1 := by rw [hq7]; simp
      simp only [← hq7] at c7 ⊢
      generalize W.alloc (.cells #[.int .i64 i] 3) = W2 at hI2 hm2 c7 hsz2 ⊢
      clear bW hm
      have hCn := hI2.out.1.wk.ahead (i := i) (by omega)
      have hB3 : Below W2.heap.size W2 ((W2.alloc (.cells #[.pointer (some ⟨b, 0, none⟩)] 101)).alloc (.cells #[.int .i64 i] 3)) := ((Below.refl _ W2).alloc (Nat.le_refl _) _).alloc (by simp) _
      have c73 := hB3.on c7
      rw [hsz2] at hCn
      generalize (W2.alloc (.cells #[.pointer (some ⟨b, 0, none⟩)] 101)).alloc (.cells #[.int .i64 i] 3) = W3 at hCn hB3 c73 ⊢
      have HI3 := Lib.hid (And.intro (hI2.out.1.grow hB3) (And.intro hI.out.2 (And.intro hB3.size (show g < q7 by rw [hq7]; exact hI.out.1.ge.2))))
      have hm3 := MarksLt.of_marks (hm2.keep (keeps_of_below hB3))
      have HGE : Hid (g < q7 + 1 ∧ w.heap.size ≤ W3.heap.size) := Lib.hid ⟨by rw [← hsz2]; exact hI2.out.1.ge.2, HI3.out.1.be.size⟩
      clear hB3 c6 hI c7 hm2 hI2 hsz2 hq7
      refine wp_range (xs := aheadL (S i) n i) rfl (enters_of Try.func115 (by kernel_rfl) rfl) (Ca (q7 + 1) (q7 + 1 + 1) b n i (S i) (some ⟨ab, ao, none⟩) ac)
        (ahead_iter n40 hlt hCn)
        (fun pre W4 => ∃ l' : List Int, Hid (LevMid n S i (pre.map Int.toNat) l') ∧ Hid (LvM w b n ac q6 g (some ⟨ab, ao, none⟩) S l' W4) ∧ Hid (MarksLt w.heap.size W3.heap.size ds W4) ∧ W4.cell? ⟨q7, 0, none⟩ = some (.int .i64 i) ∧ Ca (q7 + 1) (q7 + 1 + 1) b n i (S i) (some ⟨ab, ao, none⟩) ac W4)
        (fun _ _ _ => False) (fun _ _ h => by obtain ⟨_, _, _, _, _, h⟩ := h; exact h) (fun _ _ h hs => h.steady hs) ?sI (fun _ _ _ _ h _ => h)
        ⟨l, Lib.hid HI3.out.2.1.1.mid, Lib.hid HI3.out.1, Lib.hid hm3, c73, hCn⟩
        (fun z => { tmps := #[x 0, .pointer (some ⟨q, 0, none⟩), .slice none 0 0, .int .i64 0, .pointer (some ⟨b, 0, none⟩), .int .i64 0, .pointer (some ⟨q6, 0, none⟩), .pointer (some ⟨q7, 0, none⟩), .int .i64 z, x 9, x 10, x 11, x 12, x 13, x 14, x 15, x 16, x 17, x 18, x 19, x 20, x 21, x 22, x 23, x 24, x 25, .int .i64 n, .int .i64 i, .bool true, .int .i64 i, .pointer (some ⟨b, 0, none⟩), .int .i64 i, .func (.func 115) #[] #[.pointer (some ⟨q7 + 1 + 1, 0, none⟩), .pointer (some ⟨q7 + 1, 0, none⟩)], .int .i64 z, x 34, x 35, x 36, x 37, x 38, x 39, x 40, x 41, x 42, x 43, x 44, x 45, x 46, x 47, x 48], defers := [] }) ?assign ?body ?done ?stop
      case sI =>
        rintro _ _ _ ⟨l', h1, h2, h3, h4, h5⟩ hs
        exact ⟨l', h1, Lib.hid (h2.out.steady hs HGE.out.2), Lib.hid (h3.out.steady hs), hs.cell h4, h5.steady hs⟩
      case assign =>
        intro lp z W K hK
        gi_wp2
        exact hK
      case stop => rintro _ _ _ _ _ _ h; exact h.elim
      case done =>
        rintro D W4 hD ⟨l', h1, h2, h3, h4, h5⟩ hk
        have HD := Lib.hid (h1.out.done (map_toNat_ahead hlt))
        have hm4 := h3.out.cons HGE.out.2 hD hk
        have hw1 : IntKind.i64.wrap ((i : Int) + 1) = ((i + 1 : Nat) : Int) := by rw [IntWalk.i64_in _ (by omega)]; omega
        clear h1 h3 h5
        go_wp2_with fail
        exact .intro (n - (i + 1)) (by have := HI3.out.2.1.2.1; omega) (hJ _ _ _ ⟨i + 1, l', rfl, hm4, Lib.hid ⟨h2.out, HD.out, rfl, hlt⟩⟩)
      case body =>
        rintro lp pre z W4 hx ⟨l', h1, h2, h3, h4, h5⟩
        obtain ⟨j, rfl, hij, hjn, hSj⟩ := (mem_aheadL hlt).1 hx
        have d6 := h2.out.c6
        have hl := h1.out.to.len
        have cj := h2.out.cell hl hjn
        have ci := h2.out.cell hl hlt
        have tj := h1.out.to.top j hjn
        have ti := h1.out.to.top i hlt
        obtain ⟨vj, hvj⟩ : ∃ v, v = l'.getD j 0 := ⟨_, rfl⟩
        obtain ⟨vi, hvi⟩ : ∃ v, v = l'.getD i 0 := ⟨_, rfl⟩
        have HM : Hid (LevMid n S i ((pre ++ [(j : Int)]).map Int.toNat) (l'.set j (min vj (vi + 1)))) := Lib.hid (by
          rw [hvj, hvi, show (pre ++ [(j : Int)]).map Int.toNat = pre.map Int.toNat ++ [j] by simp]
          exact h1.out.step hij hjn hSj)
        rw [← hvj] at cj tj
        rw [← hvi] at ci ti
        have hf := h2.out.ow.frozenAt j
        have hw1 : IntKind.i64.wrap (vi + 1) = vi + 1 := IntWalk.i64_in _ (by omega)
        have HP4 := Lib.hid (h2.out.drew'.put j (min vj (vi + 1)))
        have HL4 := Lib.hid ((h3.out.keeps (KeepsOthers.drew W4)).keeps (KeepsOthers.setCell W4.drew ⟨g, j, none⟩ (.int .i64 (min vj (vi + 1)))))
        have HK4 := Lib.hid (((KeepsOthers.drew W4).trans (KeepsOthers.setCell W4.drew ⟨g, j, none⟩ (.int .i64 (min vj (vi + 1))))).from W3.heap.size)
        have H44 : Hid ((W4.drew.setCell ⟨g, j, none⟩ (.int .i64 (min vj (vi + 1)))).cell? ⟨q7, 0, none⟩ = some (.int .i64 i)) := Lib.hid (by rw [setCell_farP _ _ (by have := HI3.out.2.2.2; omega)]; exact h4)
        have H54 : Hid (Ca (q7 + 1) (q7 + 1 + 1) b n i (S i) (some ⟨ab, ao, none⟩) ac (W4.drew.setCell ⟨g, j, none⟩ (.int .i64 (min vj (vi + 1))))) := Lib.hid (by
          have hne := HI3.out.1.ne.1
          have hgl := HGE.out.1
          obtain ⟨e1, e2, e3, e4⟩ := h5
          exact ⟨by rw [setCell_farP _ _ (by omega)]; exact e1, by rw [setCell_farP _ _ (by omega)]; exact e2, by rw [setCell_farP _ _ (by omega)]; exact e3, fun k hk => by rw [setCell_farP _ _ (by omega)]; exact e4 k hk⟩)
        clear hx hSj hvj hvi hij tj ti hl h5
        gi_wp2_with fail
        have hC : (fun w => w.cell? ⟨q6, 0, none⟩ = some (.slice (some ⟨g, 0, none⟩) n n) ∧ w.cell? ⟨q7, 0, none⟩ = some (.int .i64 i) ∧ w.cell? ⟨g, j, none⟩ = some (.int .i64 vj) ∧ w.cell? ⟨g, i, none⟩ = some (.int .i64 vi)) W4.drew := ⟨d6, h4, cj, ci⟩
        refine Lim.regC (fun w => w.cell? ⟨q6, 0, none⟩ = some (.slice (some ⟨g, 0, none⟩) n n) ∧ w.cell? ⟨q7, 0, none⟩ = some (.int .i64 i) ∧ w.cell? ⟨g, j, none⟩ = some (.int .i64 vj) ∧ w.cell? ⟨g, i, none⟩ = some (.int .i64 vi)) [13] #[false, false, false, false, false, false, false, false, false, false, false, false, false, false] (by kernel_rfl) rfl ?_
        refine Lim.stepR 0 (fun _ => trivial) rfl (by kernel_rfl) (fun _ _ _ _ h => h) hC rfl ?_; apply Exists.intro; refine ⟨?_, ?_⟩
        · rintro w ⟨r1, r2, r3, r4⟩; go_simp; try with_reducible rfl
        simp only [Act.put, List.setIfInBounds_toArray, List.set_cons_succ, List.set_cons_zero]
        refine Lim.stepR 1 (fun _ => trivial) rfl (by kernel_rfl) (fun _ _ _ _ h => h) hC rfl ?_; apply Exists.intro; refine ⟨?_, ?_⟩
        · rintro w ⟨r1, r2, r3, r4⟩; go_simp; try with_reducible rfl
        simp only [Act.put, List.setIfInBounds_toArray, List.set_cons_succ, List.set_cons_zero]
        refine Lim.stepR 2 (fun _ => trivial) rfl (by kernel_rfl) (fun _ _ _ _ h => h) hC rfl ?_; apply Exists.intro; refine ⟨?_, ?_⟩
        · rintro w ⟨r1, r2, r3, r4⟩; go_simp; try with_reducible rfl
        simp only [Act.put, List.setIfInBounds_toArray, List.set_cons_succ, List.set_cons_zero]
        refine Lim.stepR 3 (fun _ => trivial) rfl (by kernel_rfl) (fun _ _ _ _ h => h) hC rfl ?_; apply Exists.intro; refine ⟨?_, ?_⟩
        · rintro w ⟨r1, r2, r3, r4⟩; go_simp; try with_reducible rfl
        simp only [Act.put, List.setIfInBounds_toArray, List.set_cons_succ, List.set_cons_zero]
        refine Lim.stepR 4 (fun _ => trivial) rfl (by kernel_rfl) (fun _ _ _ _ h => h) hC rfl ?_; apply Exists.intro; refine ⟨?_, ?_⟩
        · rintro w ⟨r1, r2, r3, r4⟩; go_simp; try with_reducible rfl
        simp only [Act.put, List.setIfInBounds_toArray, List.set_cons_succ, List.set_cons_zero]
        refine Lim.stepR 5 (fun _ => trivial) rfl (by kernel_rfl) (fun _ _ _ _ h => h) hC rfl ?_; apply Exists.intro; refine ⟨?_, ?_⟩
        · rintro w ⟨r1, r2, r3, r4⟩; go_simp; try with_reducible rfl
        simp only [Act.put, List.setIfInBounds_toArray, List.set_cons_succ, List.set_cons_zero]
        refine Lim.stepR 6 (fun _ => trivial) rfl (by kernel_rfl) (fun _ _ _ _ h => h) hC rfl ?_; apply Exists.intro; refine ⟨?_, ?_⟩
        · rintro w ⟨r1, r2, r3, r4⟩; go_simp; try with_reducible rfl
        simp only [Act.put, List.setIfInBounds_toArray, List.set_cons_succ, List.set_cons_zero]
        refine Lim.stepR 7 (fun _ => trivial) rfl (by kernel_rfl) (fun _ _ _ _ h => h) hC rfl ?_; apply Exists.intro; refine ⟨?_, ?_⟩
        · rintro w ⟨r1, r2, r3, r4⟩; go_simp; try with_reducible rfl
        simp only [Act.put, List.setIfInBounds_toArray, List.set_cons_succ, List.set_cons_zero]
        refine Lim.stepR 8 (fun _ => trivial) rfl (by kernel_rfl) (fun _ _ _ _ h => h) hC rfl ?_; apply Exists.intro; refine ⟨?_, ?_⟩
        · rintro w ⟨r1, r2, r3, r4⟩; go_simp; try with_reducible rfl
        simp only [Act.put, List.setIfInBounds_toArray, List.set_cons_succ, List.set_cons_zero]
        refine Lim.stepR 9 (fun _ => trivial) rfl (by kernel_rfl) (fun _ _ _ _ h => h) hC rfl ?_; apply Exists.intro; refine ⟨?_, ?_⟩
        · rintro w ⟨r1, r2, r3, r4⟩; go_simp; try with_reducible rfl
        simp only [Act.put, List.setIfInBounds_toArray, List.set_cons_succ, List.set_cons_zero]
        refine Lim.stepR 10 (fun _ => trivial) rfl (by kernel_rfl) (fun _ _ _ _ h => h) hC rfl ?_; apply Exists.intro; refine ⟨?_, ?_⟩
        · rintro w ⟨r1, r2, r3, r4⟩; go_simp; try with_reducible rfl
        simp only [Act.put, List.setIfInBounds_toArray, List.set_cons_succ, List.set_cons_zero]
        refine Lim.stepR 11 (fun _ => trivial) rfl (by kernel_rfl) (fun _ _ _ _ h => h) hC rfl ?_; apply Exists.intro; refine ⟨?_, ?_⟩
        · rintro w ⟨r1, r2, r3, r4⟩; go_simp; try with_reducible rfl
        simp only [Act.put, List.setIfInBounds_toArray, List.set_cons_succ, List.set_cons_zero]
        refine Lim.stepR 12 (fun _ => trivial) rfl (by kernel_rfl) (fun _ _ _ _ h => h) hC rfl ?_; apply Exists.intro; refine ⟨?_, ?_⟩
        · rintro w ⟨r1, r2, r3, r4⟩; go_simp; try with_reducible rfl
        simp only [Act.put, List.setIfInBounds_toArray, List.set_cons_succ, List.set_cons_zero]
        refine Lim.stepX 13 (fun _ => trivial) rfl (by kernel_rfl) rfl rfl (fun K hK => ?_)
        go_simp
        refine hK _ _ ?_
        simp only [Act.put, List.setIfInBounds_toArray, List.set_cons_succ, List.set_cons_zero]
        refine Lim.segC (fun _ => True) [] ?_
        refine Lim.stepD (by kernel_rfl) ?_
        exact ⟨HK4.out, l'.set j (min vj (vi + 1)), HM, HP4, HL4, H44.out, H54.out⟩
    · obtain rfl : i = n := by have := hI.out.2.2.2; omega
      have g1 : decide ((i : Int) < i) = false := by simp
      go_wp2_with fail
      refine leaves_marks (B := w.heap.size) _ hm (fun w' hs => ⟨_, results_two (fn := Try.f54) rfl _ _ rfl rfl, hI.out.1.be.steady hs (Nat.le_refl _) hI.out.1.be.size, .inr ⟨HE0.out.1, _, l, rfl, by rw [← HN.out]; exact hs.owns hI.out.1.ow, ?_⟩⟩)
      have h := hI.out.2.1
      rw [HS.out] at h
      rw [← HN.out]
      exact h.congr (fun x y hxy hy => suTo_sure p hxy (by rw [← HN.out]; exact hy))
end Go.Proofs.Ytobmhamdkngehaa
