/-
  Parts of the proof, in the order in which they build: QiO.
-/
import Derived.Test.YtohjinbgbfggcaaA11
import Derived.Test.YtohjinbgbfggcaaB1
import Derived.Test.YtohjinbgbfggcaaA14
set_option linter.unusedVariables false
set_option linter.unusedSimpArgs false
namespace Go.Proofs.Ytohjinbgbfggcaa
open Go.RowKit Go.Shelf
open Lim

theorem cell_two_newB (w : World) (x y : Value) (t : TypeId) : ∀ j u, [x, y][j]? = some u → (w.alloc (.cells #[x, y] t)).cell? ((⟨w.heap.size, 0, none⟩ : Addr).add j) = some u := by
  intro j u hj
  rw [Addr.add_lit, Nat.zero_add, World.cell?_alloc_new, List.getElem?_toArray]
  exact hj
/-- the profile of a truth -/
def Pf.own (p : Pf) (xs : List Int) (bd : Int) : Pf := ⟨p.ats, xs.map (fun x => (x, x)), p.tall, bd, bd⟩
/-- heights lie in their spans -/
def truthB (p : Pf) (xs : List Int) : Bool := (List.range p.n).all fun k => inR (xs.getD k 0) (p.g k).1 (p.g k).2
/-- what Real answers -/
def realAns (p : Pf) (xs : List Int) (bd i j : Int) : Value :=
  if p.err ≠ 0 then .tuple #[.bool false, .int .i64 p.err]
  else if xs.length = p.n ∧ twoS p.n i j = true then
    if truthB p xs = true ∧ inR bd p.lo p.hi = true then .tuple #[.bool ((p.own xs bd).sees false true i.toNat j.toNat), .int .i64 0] else .tuple #[.bool false, .int .i64 9]
  else .tuple #[.bool false, .int .i64 2]
theorem truth_at {p : Pf} {xs : List Int} (h : truthB p xs = true) {k : Nat} (hk : k < p.n) : (p.g k).1 ≤ xs.getD k 0 ∧ xs.getD k 0 ≤ (p.g k).2 :=
  inR_iff.1 ((List.all_eq_true.1 h) k (List.mem_range.2 hk))
theorem own_g {p : Pf} {xs : List Int} {bd : Int} (k : Nat) (hk : k < xs.length) : (p.own xs bd).g k = (xs.getD k 0, xs.getD k 0) := by
  unfold Pf.own Pf.g
  simp [List.getD_eq_getElem?_getD, List.getElem?_eq_getElem hk]
theorem own_ok {p : Pf} (h : p.Ok) {xs : List Int} {bd : Int} (hl : xs.length = p.n) (ht : truthB p xs = true) (hb : inR bd p.lo p.hi = true) : (p.own xs bd).Ok := by
  have hbb := inR_iff.1 hb
  have hpb := h.bend
  refine ⟨h.n2, h.n40, by show (xs.map _).length = p.n; rw [List.length_map]; exact hl, h.ats, fun k hk => ?_, h.tall, by show 0 ≤ bd ∧ bd ≤ bd ∧ bd ≤ 1000; omega, h.up⟩
  have hk' : k < p.n := hk
  have h1 := truth_at ht hk'
  have h2 := h.gr k hk'
  rw [own_g k (by omega)]
  show 0 ≤ xs.getD k 0 ∧ xs.getD k 0 ≤ xs.getD k 0 ∧ xs.getD k 0 ≤ 1000000
  omega
/-- what lies in memory while Real runs -/
structure ReM (w w0 : World) (o n ac gc ab ao gb go k : Nat) (p : Pf) (xs : List Int) (bd : Int) (v : Value) (W : World) : Prop where
  be : Below w.heap.size w W
  ge : w.heap.size ≤ o
  c : PfC W o (p.own xs bd) (.slice (some ⟨ab, ao, none⟩) n ac) v
  f1 : W.frozen? ⟨o, 1, none⟩ = false
  ow : W.ownsRow (o + 1) 28 2 v k (spans ((xs.take k).map (fun x => (x, x))))
  l : PfL w.heap.size W p ab ao ac gb go gc
  b0 : Below o w0 W
section
variable {w w0 : World} {o n ac gc ab ao gb go k : Nat} {p : Pf} {xs : List Int} {bd : Int} {v : Value} {W W' : World}
theorem ReM.lt (h : ReM w w0 o n ac gc ab ao gb go k p xs bd v W) : o < W.heap.size := World.block_lt_of_cell? _ _ h.c.c0
theorem ReM.grow (h : ReM w w0 o n ac gc ab ao gb go k p xs bd v W) (hb : Below W.heap.size W W') : ReM w w0 o n ac gc ab ao gb go k p xs bd v W' :=
  ⟨h.be.trans (hb.mono h.be.size), h.ge, h.c.grow hb, (hb.frozen (p := ⟨o, 1, none⟩) h.lt).trans h.f1, owns_below h.ow hb, h.l.grow (hb.mono h.be.size), h.b0.trans (hb.mono (Nat.le_of_lt h.lt))⟩
/-- a height is appended -/
theorem ReM.add {W1 : World} {v' : Value} (h : ReM w w0 o n ac gc ab ao gb go k p xs bd v W) (hk : k < xs.length) {x : Int} (hx : x = xs.getD k 0) (y : Value) (hW : Below W.heap.size W W1) (ho : W'.ownsRow (o + 1) 28 2 v' (k + 1) (spans ((xs.take k).map (fun x => (x, x))) ++ [.int .i64 x, .int .i64 x])) (hg : W1.grownBy W' v.ownBlock) :
    ReM w w0 o n ac gc ab ao gb go (k + 1) p xs bd v' (W'.setCell ⟨o, 1, none⟩ v') := by
  have g := h.grow hW
  have hlow : ∀ b, v.ownBlock = some b → o + 1 ≤ b := fun b e => (g.ow.lt b e).1
  have hge := h.ge
  have hlt := h.lt
  have hs1 := hW.size
  have b1 : Below w.heap.size w W' := g.be.grown hg g.be.size (fun b e => by have := hlow b e; omega)
  have b2 : Below (o + 1) W1 W' := (Below.refl (o + 1) W1).grown hg (by omega) (fun b e => hlow b e)
  have off : ∀ (i : Nat) (u : Value), i ≠ 1 → W1.cell? ⟨o, i, none⟩ = some u → (W'.setCell ⟨o, 1, none⟩ v').cell? ⟨o, i, none⟩ = some u := fun i u hne hc => by
    rw [World.cell?_setCell_other W' _ _ _ (fun e => hne (congrArg Addr.off e).symm), b2.cell (p := ⟨o, i, none⟩) (by show o < o + 1; omega)]; exact hc
  have hs : spans ((xs.take (k + 1)).map (fun x => (x, x))) = spans ((xs.take k).map (fun x => (x, x))) ++ [.int .i64 x, .int .i64 x] := by
    have e : xs[k] = x := by rw [hx, List.getD_eq_getElem?_getD, List.getElem?_eq_getElem hk]; rfl
    rw [List.take_succ_eq_append_getElem hk, List.map_append, e, spans_append]; rfl
  refine ⟨b1.setCell (p := ⟨o, 1, none⟩) hge _, hge, ⟨off 0 _ (by omega) g.c.c0, World.cell?_setCell_same' _ _ _ (by rw [b2.cell (p := ⟨o, 1, none⟩) (by show o < o + 1; omega), g.c.c1]; rfl), off 2 _ (by omega) g.c.c2, off 3 _ (by omega) g.c.c3, off 4 _ (by omega) g.c.c4⟩, ?_, ?_, (h.l.grow (hW.mono h.be.size)).grow ?_, ?_⟩
  · rw [World.frozen?_setCell, b2.frozen (p := ⟨o, 1, none⟩) (by show o < o + 1; omega)]; exact g.f1
  · rw [hs]; exact owns_setCellB ho _ (Nat.lt_succ_self o)
  · exact ((b2.mono (by omega)).setCell (p := ⟨o, 1, none⟩) hge _)
  · exact ((h.b0.trans (hW.mono (Nat.le_of_lt hlt))).trans (b2.mono (Nat.le_succ o))).setCell (p := ⟨o, 1, none⟩) (Nat.le_refl o) _
end
set_option maxRecDepth 20000 in
set_option maxHeartbeats 2000000 in
theorem Real_any {B : Nat} {p : Pf} {av gv v : Value} {xs : List Int} {bd i j : Int} {w : World} (hB : B ≤ w.heap.size) (ha : RS B w av p.ats.length (ints p.ats)) (hg : RS B w gv p.gr.length (spans p.gr)) (hv : RS B w v xs.length (ints xs)) (hm : xs.length ≤ 90000) :
    Calls Try.prog 11 #[.agg #[av, gv, .int .i64 p.tall, .int .i64 p.lo, .int .i64 p.hi], v, .int .i64 bd, .int .i64 i, .int .i64 j] w fun e w' => e = .returned (realAns p xs bd i j) ∧ Below w.heap.size w w' := by
  have HXS := Lib.hid (And.intro hv hm)
  obtain ⟨va, vc, rfl, -⟩ := hv
  obtain ⟨m, hml⟩ : ∃ m, m = xs.length := ⟨_, rfl⟩
  rw [← hml] at HXS ⊢
  have HML := Lib.hid hml
  clear hm hml
  have HR := Lib.hid (And.intro hB (And.intro ha hg))
  obtain ⟨tl, htl⟩ : ∃ x, x = p.tall := ⟨_, rfl⟩
  obtain ⟨lo, hlo⟩ : ∃ x, x = p.lo := ⟨_, rfl⟩
  obtain ⟨hi, hhi⟩ : ∃ x, x = p.hi := ⟨_, rfl⟩
  have HCK : Hid (∀ W, Below w.heap.size w W → Calls Try.prog 24 #[.agg #[av, gv, .int .i64 tl, .int .i64 lo, .int .i64 hi]] W fun e w' => e = .returned (.int .i64 p.err) ∧ Below W.heap.size W w') := Lib.hid fun W hW => by
    rw [htl, hlo, hhi]
    exact Check_any (Nat.le_trans hB hW.size) (ha.below (hW.mono hB)) (hg.below (hW.mono hB))
  rw [← htl, ← hlo, ← hhi]
  have HT := Lib.hid (And.intro htl (And.intro hlo hhi))
  have HM : Hid (Below w.heap.size w (w.alloc (.cells #[av, gv, .int .i64 tl, .int .i64 lo, .int .i64 hi] 30)) ∧ (w.alloc (.cells #[av, gv, .int .i64 tl, .int .i64 lo, .int .i64 hi] 30)).heap[w.heap.size]? = some (.cells #[av, gv, .int .i64 tl, .int .i64 lo, .int .i64 hi] 30 (0, 0))) := Lib.hid ⟨(Below.refl _ w).alloc (Nat.le_refl _) _, heap_alloc_newP w _⟩
  clear hB htl hlo hhi ha hg
  obtain ⟨sa, hsa⟩ : ∃ x, x = realAns p xs bd i j := ⟨_, rfl⟩
  have HSA := Lib.hid hsa
  rw [← hsa]
  obtain ⟨er, her⟩ : ∃ x, x = p.err := ⟨_, rfl⟩
  rw [← her] at HCK
  have HER := Lib.hid her
  clear hsa her
  go_enter Try.func11, Try.ntmps11
  go_upto_region 1 with (fail)
  obtain ⟨q, hq⟩ : ∃ q, q = w.heap.size := ⟨_, rfl⟩
  have HQ := Lib.hid hq.symm
  rw [← hq] at HM
  simp only [← hq]
  clear hq
  generalize w.alloc (.cells #[av, gv, .int .i64 tl, .int .i64 lo, .int .i64 hi] 30) = w1 at HM ⊢
  obtain ⟨⟨k0, k1, k2, k3, k4⟩, -⟩ := five_cells HM.out.2
  have HW1 : Hid (Below w.heap.size w w1) := Lib.hid (by rw [HQ.out]; exact HM.out.1)
  go_wp2_with fail
  refine (HCK.out _ HW1.out).mono ?_
  rintro e w2 ⟨rfl, hb2⟩
  have hk0 := hb2.on k0
  have hk1 := hb2.on k1
  have hk2 := hb2.on k2
  have hk3 := hb2.on k3
  have hk4 := hb2.on k4
  clear k0 k1 k2 k3 k4
  have HB2 : Hid (Below w.heap.size w w2) := Lib.hid (HW1.out.trans (hb2.mono HW1.out.size))
  clear hb2
  by_cases he : er = 0
  · have HP : Hid p.Ok := Lib.hid (err_ok (by rw [← HER.out]; exact he))
    obtain ⟨ab, ao, ac, gb, go, gc, rfl, rfl, hl⟩ := pf_lists HP.out HR.out.2.1 HR.out.2.2
    have HL := Lib.hid hl
    obtain ⟨n, hn⟩ : ∃ x, x = p.n := ⟨_, rfl⟩
    rw [← hn] at hk0 hk1 ⊢
    have HN : Hid (n = p.n) := Lib.hid hn
    have n40 : n ≤ 40 := by rw [hn]; exact HP.out.n40
    have d1 : (er != 0) = false := by simp [he]
    clear hn hl
    by_cases hmn : m = n
    · have g1 : ((m : Int) != (n : Int)) = false := by simp [hmn]
      subst hmn
      go_wp2_with fail
      refine (two_any n40).mono ?_
      rintro e w3 ⟨rfl, hb3⟩
      have HB3 : Hid (Below w.heap.size w w3) := Lib.hid (HB2.out.trans (hb3.mono HB2.out.size))
      cases h2 : twoS m i j with
      | false =>
        have HE : Hid (sa = .tuple #[.bool false, .int .i64 2]) := Lib.hid (by rw [HSA.out, realAns, if_neg (by rw [← HER.out]; simp [he]), if_neg (by rw [← HN.out, h2]; simp)])
        clear hb3 hk0 hk1 hk2 hk3 hk4
        go_wp2
        go_ret2
        exact ⟨by rw [HE.out]; rfl, HB3.out⟩
      | true =>
        have HE : Hid (sa = if truthB p xs = true ∧ inR bd p.lo p.hi = true then .tuple #[.bool ((p.own xs bd).sees false true i.toNat j.toNat), .int .i64 0] else .tuple #[.bool false, .int .i64 9]) := Lib.hid (by
          rw [HSA.out, realAns, if_neg (by rw [← HER.out]; simp [he]), if_pos ⟨by rw [← HML.out]; exact HN.out, by rw [← HN.out, h2]⟩])
        obtain ⟨x, y, rfl, rfl, hx, hy, hxy⟩ := twoS_nat h2
        have HXY : Hid (x < m ∧ y < m) := Lib.hid ⟨hx, hy⟩
        have hk0' := hb3.on hk0
        have hk1' := hb3.on hk1
        have hk2' := hb3.on hk2
        have hk3' := hb3.on hk3
        have hk4' := hb3.on hk4
        obtain ⟨vb, vo, rfl, hvc⟩ : ∃ vb vo, va = some ⟨vb, vo, none⟩ ∧ Hid (∀ W, Below w.heap.size w W → ∀ j, j < m → W.cell? ⟨vb, vo + j, none⟩ = some (.int .i64 (xs.getD j 0))) := by
          obtain ⟨a2, c2, e2, h2⟩ := HXS.out.1
          cases e2
          obtain ⟨vb, vo, rfl, h3, h4⟩ := h2 (ints_ne (by have := HML.out; omega))
          refine ⟨vb, vo, rfl, Lib.hid fun W hW j hj => ?_⟩
          have h5 := h4 j _ (ints_at' xs j (by have := HML.out; omega))
          rw [(hW.mono HR.out.1).cell (p := ⟨vb, vo + j, none⟩) h3, h5, ← List.getD_eq_getElem?_getD]
        clear hx hy hxy h2 hb3 hk0 hk1 hk2 hk3 hk4
        go_upto_region 7 with (fail)
        have HM0 : Hid (ReM w w3 w3.heap.size m ac gc ab ao gb go 0 p xs bd (.slice none 0 0) (w3.alloc (.cells #[.slice (some ⟨ab, ao, none⟩) m ac, .slice none 0 0, .int .i64 tl, .int .i64 bd, .int .i64 bd] 30))) := Lib.hid (by
          have hb : Below w3.heap.size w3 (w3.alloc (.cells #[.slice (some ⟨ab, ao, none⟩) m ac, .slice none 0 0, .int .i64 tl, .int .i64 bd, .int .i64 bd] 30)) := (Below.refl _ w3).alloc (Nat.le_refl _) _
          refine ⟨HB3.out.trans (hb.mono HB3.out.size), HB3.out.size, ⟨?_, ?_, ?_, ?_, ?_⟩, World.frozen?_alloc_new .., ⟨rfl, .inl ⟨rfl, rfl⟩⟩, PfL.grow (p := p) (HL.out.mono HR.out.1) (HB3.out.trans (hb.mono HB3.out.size)), hb⟩
          · rw [World.cell?_alloc_new]; rfl
          · rw [World.cell?_alloc_new]; rfl
          · rw [World.cell?_alloc_new, HT.out.1]; rfl
          · rw [World.cell?_alloc_new]; rfl
          · rw [World.cell?_alloc_new]; rfl)
        have hk1 := ((Below.refl w3.heap.size w3).alloc (Nat.le_refl _) (.cells #[.slice (some ⟨ab, ao, none⟩) m ac, .slice none 0 0, .int .i64 tl, .int .i64 bd, .int .i64 bd] 30)).on hk1'
        have HKQ : Hid (q < w3.heap.size ∧ w3.cell? ⟨q, 3, none⟩ = some (.int .i64 lo) ∧ w3.cell? ⟨q, 4, none⟩ = some (.int .i64 hi)) := Lib.hid ⟨World.block_lt_of_cell? _ _ hk1', hk3', hk4'⟩
        obtain ⟨o, ho⟩ : ∃ z, z = w3.heap.size := ⟨_, rfl⟩
        rw [← ho] at HM0 HKQ ⊢
        clear ho hk0' hk1' hk2' hk3' hk4'
        generalize w3.alloc (.cells #[.slice (some ⟨ab, ao, none⟩) m ac, .slice none 0 0, .int .i64 tl, .int .i64 bd, .int .i64 bd] 30) = w4 at HM0 hk1 ⊢
        go_wp2_with fail
        go_loopw [48] (fun kv wr => ∃ (k : Nat) (v : Value), k ≤ m ∧ kv = .int .i64 k ∧ Hid (ReM w w3 o m ac gc ab ao gb go k p xs bd v wr) ∧ Hid (∀ j, j < k → inR (xs.getD j 0) (p.g j).1 (p.g j).2 = true)) (fun kv _ => m - (intOf kv).toNat)
        case atStart => exact ⟨0, _, Nat.zero_le _, by go_num, HM0, Lib.hid (fun j hj => absurd hj (Nat.not_lt_zero j))⟩
        case round =>
          clear HM0 hk1
          obtain ⟨k, v, hkm, rfl, hM, hT⟩ := hrel
          by_cases hlt : k < m
          · have g2 : decide ((k : Int) < m) = true := decide_eq_true (by omega)
            obtain ⟨gl, hgl⟩ : ∃ z, z = (p.g k).1 := ⟨_, rfl⟩
            obtain ⟨gh, hgh⟩ : ∃ z, z = (p.g k).2 := ⟨_, rfl⟩
            obtain ⟨ht, hx⟩ : ∃ z, z = xs.getD k 0 := ⟨_, rfl⟩
            have cg := hM.out.l.cg k (by have := HN.out; have := HP.out.gn; omega)
            rw [← hgl, ← hgh] at cg
            obtain ⟨cg1, cg2⟩ := cg
            have cx := hvc.out wr hM.out.be k hlt
            rw [← hx] at cx
            have HXX := Lib.hid (And.intro hx (And.intro hgl hgh))
            clear hgl hgh hx
            go_upto_region 10 with (fail)
            have hb5 : Below wr.heap.size wr (wr.alloc (.cells #[.int .i64 gl, .int .i64 gh] 28)) := (Below.refl _ wr).alloc (Nat.le_refl _) _
            have HM5 := Lib.hid (hM.out.grow hb5)
            have cx5 := hb5.on cx
            have cs5 : (wr.alloc (.cells #[.int .i64 gl, .int .i64 gh] 28)).cell? ⟨wr.heap.size, 0, none⟩ = some (.int .i64 gl) := by rw [World.cell?_alloc_new]; rfl
            have cs6 : (wr.alloc (.cells #[.int .i64 gl, .int .i64 gh] 28)).cell? ⟨wr.heap.size, 1, none⟩ = some (.int .i64 gh) := by rw [World.cell?_alloc_new]; rfl
            obtain ⟨q5, hq5⟩ : ∃ z, z = wr.heap.size := ⟨_, rfl⟩
            rw [← hq5] at cs5 cs6 ⊢
            generalize wr.alloc (.cells #[.int .i64 gl, .int .i64 gh] 28) = w5 at HM5 cx5 cs5 cs6 ⊢
            clear hq5 hb5 hM cg1 cg2 cx
            cases hin : inR ht gl gh with
            | false =>
              have HF : Hid (sa = .tuple #[.bool false, .int .i64 9]) := Lib.hid (by
                rw [HE.out, if_neg]
                rintro ⟨h1, -⟩
                have h2 := (List.all_eq_true.1 h1) k (List.mem_range.2 (by rw [← HN.out]; exact hlt))
                rw [← HXX.out.1, ← HXX.out.2.1, ← HXX.out.2.2, hin] at h2
                cases h2)
              have HD5 := Lib.hid (HM5.out.grow (Below.refl w5.heap.size w5).drew)
              have hC : (fun w => w.cell? ⟨vb, vo + k, none⟩ = some (.int .i64 ht) ∧ w.cell? ⟨q5, 0, none⟩ = some (.int .i64 gl) ∧ w.cell? ⟨q5, 1, none⟩ = some (.int .i64 gh)) w5.drew := ⟨cx5, cs5, cs6⟩
              generalize hW0 : w5.drew = w7 at hC HD5
              refine Lim.regC' (fun w => w.cell? ⟨vb, vo + k, none⟩ = some (.int .i64 ht) ∧ w.cell? ⟨q5, 0, none⟩ = some (.int .i64 gl) ∧ w.cell? ⟨q5, 1, none⟩ = some (.int .i64 gh)) [] #[false, false, false, false, false, false, false, false, false, false] (by kernel_rfl) rfl ?_
              rw [hW0]
              clear hW0
              refine Lim.stepR 0 (fun _ => trivial) rfl (by kernel_rfl) (fun _ _ _ _ h => h) hC rfl ?_; apply Exists.intro; refine ⟨?_, ?_⟩
              · rintro w ⟨r1, r2, r3⟩; go_simp; try with_reducible rfl
              simp only [Act.put, List.setIfInBounds_toArray, List.set_cons_succ, List.set_cons_zero]
              refine Lim.stepR 1 (fun _ => trivial) rfl (by kernel_rfl) (fun _ _ _ _ h => h) hC rfl ?_; apply Exists.intro; refine ⟨?_, ?_⟩
              · rintro w ⟨r1, r2, r3⟩; go_simp; try with_reducible rfl
              simp only [Act.put, List.setIfInBounds_toArray, List.set_cons_succ, List.set_cons_zero]
              refine Lim.stepR 2 (fun _ => trivial) rfl (by kernel_rfl) (fun _ _ _ _ h => h) hC rfl ?_; apply Exists.intro; refine ⟨?_, ?_⟩
              · rintro w ⟨r1, r2, r3⟩; go_simp; try with_reducible rfl
              simp only [Act.put, List.setIfInBounds_toArray, List.set_cons_succ, List.set_cons_zero]
              refine Lim.stepR 3 (fun _ => trivial) rfl (by kernel_rfl) (fun _ _ _ _ h => h) hC rfl ?_; apply Exists.intro; refine ⟨?_, ?_⟩
              · rintro w ⟨r1, r2, r3⟩; go_simp; try with_reducible rfl
              simp only [Act.put, List.setIfInBounds_toArray, List.set_cons_succ, List.set_cons_zero]
              refine Lim.stepR 4 (fun _ => trivial) rfl (by kernel_rfl) (fun _ _ _ _ h => h) hC rfl ?_; apply Exists.intro; refine ⟨?_, ?_⟩
              · rintro w ⟨r1, r2, r3⟩; go_simp; try with_reducible rfl
              simp only [Act.put, List.setIfInBounds_toArray, List.set_cons_succ, List.set_cons_zero]
              refine Lim.stepR 5 (fun _ => trivial) rfl (by kernel_rfl) (fun _ _ _ _ h => h) hC rfl ?_; apply Exists.intro; refine ⟨?_, ?_⟩
              · rintro w ⟨r1, r2, r3⟩; go_simp; try with_reducible rfl
              simp only [Act.put, List.setIfInBounds_toArray, List.set_cons_succ, List.set_cons_zero]
              refine Lim.stepR 6 (fun _ => trivial) rfl (by kernel_rfl) (fun _ _ _ _ h => h) hC rfl ?_; apply Exists.intro; refine ⟨?_, ?_⟩
              · rintro w ⟨r1, r2, r3⟩; go_simp; try with_reducible rfl
              simp only [Act.put, List.setIfInBounds_toArray, List.set_cons_succ, List.set_cons_zero]
              refine Lim.stepR 7 (fun _ => trivial) rfl (by kernel_rfl) (fun _ _ _ _ h => h) hC rfl ?_; apply Exists.intro; refine ⟨?_, ?_⟩
              · rintro w ⟨r1, r2, r3⟩; go_simp; try with_reducible rfl
              simp only [Act.put, List.setIfInBounds_toArray, List.set_cons_succ, List.set_cons_zero]
              refine Lim.stepE 8 (fun _ => trivial) rfl (by kernel_rfl) rfl (fun K hK => ?_)   -- E call
              go_simp
              refine ⟨rfl, (callsIn_wide.2 (in_any _ _ _ _)).mono ?_⟩
              rintro e w' ⟨rfl, rfl⟩
              rw [hin]
              refine hK _ _ hC ?_
              simp only [Act.put, List.setIfInBounds_toArray, List.set_cons_succ, List.set_cons_zero]
              refine Lim.stepR 9 (fun _ => trivial) rfl (by kernel_rfl) (fun _ _ _ _ h => h) hC rfl ?_; apply Exists.intro; refine ⟨?_, ?_⟩
              · rintro w ⟨r1, r2, r3⟩; go_simp; try with_reducible rfl
              simp only [Act.put, List.setIfInBounds_toArray, List.set_cons_succ, List.set_cons_zero]
              refine Lim.stepD (by kernel_rfl) ?_
              have HB6 : Hid (Below w.heap.size w w7) := Lib.hid HD5.out.be
              clear hin
              go_wp2
              go_ret2
              exact ⟨by rw [HF.out]; rfl, HB6.out⟩
            | true =>
              have HT2 : Hid (∀ j, j < k + 1 → inR (xs.getD j 0) (p.g j).1 (p.g j).2 = true) := Lib.hid (fun j hj => by
                by_cases e : j = k
                · subst e; rw [← HXX.out.1, ← HXX.out.2.1, ← HXX.out.2.2]; exact hin
                · exact hT.out j (by omega))
              have HD5 := Lib.hid (HM5.out.grow (Below.refl w5.heap.size w5).drew)
              have hC : (fun w => w.cell? ⟨vb, vo + k, none⟩ = some (.int .i64 ht) ∧ w.cell? ⟨q5, 0, none⟩ = some (.int .i64 gl) ∧ w.cell? ⟨q5, 1, none⟩ = some (.int .i64 gh)) w5.drew := ⟨cx5, cs5, cs6⟩
              generalize hW0 : w5.drew = w7 at hC HD5
              refine Lim.regC' (fun w => w.cell? ⟨vb, vo + k, none⟩ = some (.int .i64 ht) ∧ w.cell? ⟨q5, 0, none⟩ = some (.int .i64 gl) ∧ w.cell? ⟨q5, 1, none⟩ = some (.int .i64 gh)) [] #[false, false, false, false, false, false, false, false, false, false] (by kernel_rfl) rfl ?_
              rw [hW0]
              clear hW0
              refine Lim.stepR 0 (fun _ => trivial) rfl (by kernel_rfl) (fun _ _ _ _ h => h) hC rfl ?_; apply Exists.intro; refine ⟨?_, ?_⟩
              · rintro w ⟨r1, r2, r3⟩; go_simp; try with_reducible rfl
              simp only [Act.put, List.setIfInBounds_toArray, List.set_cons_succ, List.set_cons_zero]
              refine Lim.stepR 1 (fun _ => trivial) rfl (by kernel_rfl) (fun _ _ _ _ h => h) hC rfl ?_; apply Exists.intro; refine ⟨?_, ?_⟩
              · rintro w ⟨r1, r2, r3⟩; go_simp; try with_reducible rfl
              simp only [Act.put, List.setIfInBounds_toArray, List.set_cons_succ, List.set_cons_zero]
              refine Lim.stepR 2 (fun _ => trivial) rfl (by kernel_rfl) (fun _ _ _ _ h => h) hC rfl ?_; apply Exists.intro; refine ⟨?_, ?_⟩
              · rintro w ⟨r1, r2, r3⟩; go_simp; try with_reducible rfl
              simp only [Act.put, List.setIfInBounds_toArray, List.set_cons_succ, List.set_cons_zero]
              refine Lim.stepR 3 (fun _ => trivial) rfl (by kernel_rfl) (fun _ _ _ _ h => h) hC rfl ?_; apply Exists.intro; refine ⟨?_, ?_⟩
              · rintro w ⟨r1, r2, r3⟩; go_simp; try with_reducible rfl
              simp only [Act.put, List.setIfInBounds_toArray, List.set_cons_succ, List.set_cons_zero]
              refine Lim.stepR 4 (fun _ => trivial) rfl (by kernel_rfl) (fun _ _ _ _ h => h) hC rfl ?_; apply Exists.intro; refine ⟨?_, ?_⟩
              · rintro w ⟨r1, r2, r3⟩; go_simp; try with_reducible rfl
              simp only [Act.put, List.setIfInBounds_toArray, List.set_cons_succ, List.set_cons_zero]
              refine Lim.stepR 5 (fun _ => trivial) rfl (by kernel_rfl) (fun _ _ _ _ h => h) hC rfl ?_; apply Exists.intro; refine ⟨?_, ?_⟩
              · rintro w ⟨r1, r2, r3⟩; go_simp; try with_reducible rfl
              simp only [Act.put, List.setIfInBounds_toArray, List.set_cons_succ, List.set_cons_zero]
              refine Lim.stepR 6 (fun _ => trivial) rfl (by kernel_rfl) (fun _ _ _ _ h => h) hC rfl ?_; apply Exists.intro; refine ⟨?_, ?_⟩
              · rintro w ⟨r1, r2, r3⟩; go_simp; try with_reducible rfl
              simp only [Act.put, List.setIfInBounds_toArray, List.set_cons_succ, List.set_cons_zero]
              refine Lim.stepR 7 (fun _ => trivial) rfl (by kernel_rfl) (fun _ _ _ _ h => h) hC rfl ?_; apply Exists.intro; refine ⟨?_, ?_⟩
              · rintro w ⟨r1, r2, r3⟩; go_simp; try with_reducible rfl
              simp only [Act.put, List.setIfInBounds_toArray, List.set_cons_succ, List.set_cons_zero]
              refine Lim.stepE 8 (fun _ => trivial) rfl (by kernel_rfl) rfl (fun K hK => ?_)   -- E call
              go_simp
              refine ⟨rfl, (callsIn_wide.2 (in_any _ _ _ _)).mono ?_⟩
              rintro e w' ⟨rfl, rfl⟩
              rw [hin]
              refine hK _ _ hC ?_
              simp only [Act.put, List.setIfInBounds_toArray, List.set_cons_succ, List.set_cons_zero]
              refine Lim.stepR 9 (fun _ => trivial) rfl (by kernel_rfl) (fun _ _ _ _ h => h) hC rfl ?_; apply Exists.intro; refine ⟨?_, ?_⟩
              · rintro w ⟨r1, r2, r3⟩; go_simp; try with_reducible rfl
              simp only [Act.put, List.setIfInBounds_toArray, List.set_cons_succ, List.set_cons_zero]
              refine Lim.stepD (by kernel_rfl) ?_
              obtain ⟨w6, hw6⟩ : ∃ z : World, z = w7 := ⟨_, rfl⟩
              rw [← hw6] at HD5 hC ⊢
              have HM6 := HD5
              have cx6 := hC.1
              clear hin cx5 cs5 cs6 HM5 hT hw6 hC HD5
              go_wp2_with fail
              obtain ⟨i0, hi, hz0, hz1, hz2⟩ := info_parts Try.infoSpan
              have HIN := Lib.hid (And.intro hi (And.intro hz0 (And.intro hz1 hz2)))
              clear hi hz0 hz1 hz2
              have HM8 := Lib.hid (HM6.out.grow (Below.refl w6.heap.size w6).drew)
              have hC : (fun w => w.cell? ⟨o, 1, none⟩ = some v ∧ w.cell? ⟨vb, vo + k, none⟩ = some (.int .i64 ht)) w6.drew := ⟨HM6.out.c.c1, cx6⟩
              have hfo := HM8.out.f1
              generalize hW0 : w6.drew = w8 at hC HM8 hfo
              have hC2 : (fun w => w.cell? ⟨o, 1, none⟩ = some v ∧ w.cell? ⟨vb, vo + k, none⟩ = some (.int .i64 ht)) (w8.alloc (.cells #[.int .i64 ht, .int .i64 ht] 28)) := ⟨cell_al _ hC.1, cell_al _ hC.2⟩
              have HVB : Hid (vb < o + 1) := Lib.hid (by
                obtain ⟨a2, c2, e2, h2⟩ := HXS.out.1
                cases e2
                obtain ⟨vb', vo', e3, h3, h4⟩ := h2 (ints_ne (by have := HML.out; omega))
                cases e3
                have := HR.out.1
                have := HM6.out.ge
                omega)
              have HOL := Lib.hid HM8.out.lt
              refine Lim.regC' (fun w => w.cell? ⟨o, 1, none⟩ = some v ∧ w.cell? ⟨vb, vo + k, none⟩ = some (.int .i64 ht)) [14] #[false, false, false, false, false, false, false, false, false, false, false, false, false, false, false] (by kernel_rfl) rfl ?_
              rw [hW0]
              clear hW0
              refine Lim.stepR 0 (fun _ => trivial) rfl (by kernel_rfl) (fun _ _ _ _ h => h) hC rfl ?_; apply Exists.intro; refine ⟨?_, ?_⟩
              · rintro w ⟨r1, r2⟩; go_simp; try with_reducible rfl
              simp only [Act.put, List.setIfInBounds_toArray, List.set_cons_succ, List.set_cons_zero]
              refine Lim.stepR 1 (fun _ => trivial) rfl (by kernel_rfl) (fun _ _ _ _ h => h) hC rfl ?_; apply Exists.intro; refine ⟨?_, ?_⟩
              · rintro w ⟨r1, r2⟩; go_simp; try with_reducible rfl
              simp only [Act.put, List.setIfInBounds_toArray, List.set_cons_succ, List.set_cons_zero]
              refine Lim.stepR 2 (fun _ => trivial) rfl (by kernel_rfl) (fun _ _ _ _ h => h) hC rfl ?_; apply Exists.intro; refine ⟨?_, ?_⟩
              · rintro w ⟨r1, r2⟩; go_simp; try with_reducible rfl
              simp only [Act.put, List.setIfInBounds_toArray, List.set_cons_succ, List.set_cons_zero]
              refine Lim.stepR 3 (fun _ => trivial) rfl (by kernel_rfl) (fun _ _ _ _ h => h) hC rfl ?_; apply Exists.intro; refine ⟨?_, ?_⟩
              · rintro w ⟨r1, r2⟩; go_simp; try with_reducible rfl
              simp only [Act.put, List.setIfInBounds_toArray, List.set_cons_succ, List.set_cons_zero]
              refine Lim.stepR 4 (fun _ => trivial) rfl (by kernel_rfl) (fun _ _ _ _ h => h) hC rfl ?_; apply Exists.intro; refine ⟨?_, ?_⟩
              · rintro w ⟨r1, r2⟩; go_simp; try with_reducible rfl
              simp only [Act.put, List.setIfInBounds_toArray, List.set_cons_succ, List.set_cons_zero]
              refine Lim.stepR 5 (fun _ => trivial) rfl (by kernel_rfl) (fun _ _ _ _ h => h) hC rfl ?_; apply Exists.intro; refine ⟨?_, ?_⟩
              · rintro w ⟨r1, r2⟩; go_simp; try with_reducible rfl
              simp only [Act.put, List.setIfInBounds_toArray, List.set_cons_succ, List.set_cons_zero]
              refine Lim.stepR 6 (fun _ => trivial) rfl (by kernel_rfl) (fun _ _ _ _ h => h) hC rfl ?_; apply Exists.intro; refine ⟨?_, ?_⟩
              · rintro w ⟨r1, r2⟩; go_simp; try with_reducible rfl
              simp only [Act.put, List.setIfInBounds_toArray, List.set_cons_succ, List.set_cons_zero]
              refine Lim.stepR 7 (fun _ => trivial) rfl (by kernel_rfl) (fun _ _ _ _ h => h) hC rfl ?_; apply Exists.intro; refine ⟨?_, ?_⟩
              · rintro w ⟨r1, r2⟩; go_simp; try with_reducible rfl
              simp only [Act.put, List.setIfInBounds_toArray, List.set_cons_succ, List.set_cons_zero]
              refine Lim.stepR 8 (fun _ => trivial) rfl (by kernel_rfl) (fun _ _ _ _ h => h) hC rfl ?_; apply Exists.intro; refine ⟨?_, ?_⟩
              · rintro w ⟨r1, r2⟩; go_simp; try with_reducible rfl
              simp only [Act.put, List.setIfInBounds_toArray, List.set_cons_succ, List.set_cons_zero]
              refine Lim.stepR 9 (fun _ => trivial) rfl (by kernel_rfl) (fun _ _ _ _ h => h) hC rfl ?_; apply Exists.intro; refine ⟨?_, ?_⟩
              · rintro w ⟨r1, r2⟩; go_simp; try with_reducible rfl
              simp only [Act.put, List.setIfInBounds_toArray, List.set_cons_succ, List.set_cons_zero]
              refine Lim.stepR 10 (fun _ => trivial) rfl (by kernel_rfl) (fun _ _ _ _ h => h) hC rfl ?_; apply Exists.intro; refine ⟨?_, ?_⟩
              · rintro w ⟨r1, r2⟩; go_simp; try with_reducible rfl
              simp only [Act.put, List.setIfInBounds_toArray, List.set_cons_succ, List.set_cons_zero]
              refine Lim.stepE 11 (fun _ => trivial) rfl (by kernel_rfl) rfl (fun K hK => ?_)   -- E buildSlice
              go_simp
              refine hK _ _ hC2 ?_
              simp only [Act.put, List.setIfInBounds_toArray, List.set_cons_succ, List.set_cons_zero]
              refine Lim.stepE 12 (fun _ => trivial) rfl (by kernel_rfl) rfl (fun K hK => ?_)   -- E call
              obtain ⟨v', w9, hrun, hown9, hgr9, -⟩ := run_append_own (P := Try.prog) (w8.alloc (.cells #[.int .i64 ht, .int .i64 ht] 28)) (o + 1) 26 26 28 i0 (.agg #[.int .i64 0, .int .i64 0]) 2 16 Try.underlying26 HIN.out.1 HIN.out.2.1 HIN.out.2.2.1 HIN.out.2.2.2 rfl (by decide) _ _ _ (HM8.out.ow.alloc (.cells #[.int .i64 ht, .int .i64 ht] 28)) ⟨w8.heap.size, 0, none⟩ 1 1 [.int .i64 ht, .int .i64 ht] rfl (cell_two_newB w8 _ _ _) (by simp [Value.oneCell']) (by unfold maxLen; omega) (by omega) (by have := HOL.out; simp; omega)
              have hC3 : (fun w => w.cell? ⟨o, 1, none⟩ = some v ∧ w.cell? ⟨vb, vo + k, none⟩ = some (.int .i64 ht)) w9 := ⟨hgr9.cell hC2.1 (fun e => absurd (HM8.out.ow.lt _ e.symm).1 (by show ¬ o + 1 ≤ o; omega)), hgr9.cell hC2.2 (fun e => absurd (HM8.out.ow.lt _ e.symm).1 (by show ¬ o + 1 ≤ vb; have := HVB.out; omega))⟩
              have hf9 : w9.frozen? ⟨o, 1, none⟩ = false := by
                have b2 : Below (o + 1) (w8.alloc (.cells #[.int .i64 ht, .int .i64 ht] 28)) w9 := (Below.refl (o + 1) (w8.alloc (.cells #[.int .i64 ht, .int .i64 ht] 28))).grown hgr9 (by have := HOL.out; simp; omega) (fun b e => (HM8.out.ow.lt b e).1)
                rw [b2.frozen (p := ⟨o, 1, none⟩) (Nat.lt_succ_self o)]
                exact (((Below.refl w8.heap.size w8).alloc (Nat.le_refl _) _).frozen (p := ⟨o, 1, none⟩) HOL.out).trans hfo
              have HM9 := Lib.hid (HM8.out.add (W1 := (w8.alloc (.cells #[.int .i64 ht, .int .i64 ht] 28))) (x := ht) (by have := HML.out; omega) HXX.out.1 (.int .i64 ht) ((Below.refl w8.heap.size w8).alloc (Nat.le_refl _) _) hown9 hgr9)
              obtain ⟨g9, cap9, rfl⟩ := ownsRow_succ hown9
              refine Lim.append_upon rfl rfl rfl hrun (hK _ _ hC3 ?_)
              clear hrun hown9 hgr9
              simp only [Act.put, List.setIfInBounds_toArray, List.set_cons_succ, List.set_cons_zero]
              refine Lim.stepR 13 (fun _ => trivial) rfl (by kernel_rfl) (fun _ _ _ _ h => h) hC3 rfl ?_; apply Exists.intro; refine ⟨?_, ?_⟩
              · rintro w ⟨r1, r2⟩; go_simp; try with_reducible rfl
              simp only [Act.put, List.setIfInBounds_toArray, List.set_cons_succ, List.set_cons_zero]
              refine Lim.stepX 14 (fun _ => trivial) rfl (by kernel_rfl) rfl rfl (fun K hK => ?_)
              go_simp
              refine hK _ _ ?_
              simp only [Act.put, List.setIfInBounds_toArray, List.set_cons_succ, List.set_cons_zero]
              refine Lim.segC (fun _ => True) [] ?_
              refine Lim.stepD (by kernel_rfl) ?_
              clear hC3 hf9
              generalize w9.setCell ⟨o, 1, none⟩ (.slice (some ⟨g9, 0, none⟩) (k + 1) cap9) = w10 at HM9 ⊢
              clear hC hC2 cx6 hfo
              go_wp2
              go_roundw
              case rel => exact ⟨k + 1, _, by omega, by go_num, HM9, HT2⟩
              case measure => simp [intOf]; omega
          · obtain rfl : k = m := by omega
            have g2 : decide ((k : Int) < k) = false := by simp
            obtain ⟨g9, cap9, rfl⟩ : ∃ g cap, v = .slice (some ⟨g, 0, none⟩) k cap := by
              rcases hM.out.ow.2 with ⟨-, h0⟩ | ⟨g, cap, cur, rfl, -⟩
              · have := HXY.out; omega
              · exact ⟨g, cap, rfl⟩
            have b3 : wr.cell? ⟨q, 3, none⟩ = some (.int .i64 lo) := (hM.out.b0.cell (p := ⟨q, 3, none⟩) HKQ.out.1).trans HKQ.out.2.1
            have b4 : wr.cell? ⟨q, 4, none⟩ = some (.int .i64 hi) := (hM.out.b0.cell (p := ⟨q, 4, none⟩) HKQ.out.1).trans HKQ.out.2.2
            have HTR : Hid (truthB p xs = true) := Lib.hid (List.all_eq_true.2 (fun j hj => hT.out j (by have := List.mem_range.1 hj; have := HN.out; omega)))
            go_wp2_with fail
            refine (in_any _ _ _ _).mono ?_
            rintro e w' ⟨rfl, rfl⟩
            cases hin : inR bd lo hi with
            | false =>
              have HF : Hid (sa = .tuple #[.bool false, .int .i64 9]) := Lib.hid (by rw [HE.out, if_neg]; rintro ⟨-, h1⟩; rw [← HT.out.2.1, ← HT.out.2.2, hin] at h1; cases h1)
              clear hin b3 b4
              go_wp2
              go_ret2
              exact ⟨by rw [HF.out]; rfl, hM.out.be⟩
            | true =>
              have HIN : Hid (inR bd p.lo p.hi = true) := Lib.hid (by rw [← HT.out.2.1, ← HT.out.2.2]; exact hin)
              obtain ⟨ans, hans⟩ : ∃ z, z = (p.own xs bd).sees false true x y := ⟨_, rfl⟩
              have HF : Hid (sa = .tuple #[.bool ans, .int .i64 0]) := Lib.hid (by rw [HE.out, if_pos ⟨HTR.out, HIN.out⟩, hans]; rfl)
              have HAN := Lib.hid hans
              clear hin b3 b4 hans
              have o0 := hM.out.c.c0
              have o1 := hM.out.c.c1
              have o2 := hM.out.c.c2
              have o3 := hM.out.c.c3
              have o4 := hM.out.c.c4
              rw [show (p.own xs bd).tall = tl from HT.out.1.symm] at o2
              rw [show (p.own xs bd).lo = bd from rfl] at o3
              rw [show (p.own xs bd).hi = bd from rfl] at o4
              go_upto_region 17 with (fail)
              simp only [workChain]
              have HWN := Lib.hid (work_newP (w := wr) (p := p.own xs bd) (av := .slice (some ⟨ab, ao, none⟩) k ac) (gv := .slice (some ⟨g9, 0, none⟩) k cap9)).1
              rw [show (p.own xs bd).tall = tl from HT.out.1.symm, show (p.own xs bd).lo = bd from rfl, show (p.own xs bd).hi = bd from rfl] at HWN
              generalize hwc : workCells (.slice (some ⟨ab, ao, none⟩) k ac) (.slice (some ⟨g9, 0, none⟩) k cap9) (.int .i64 tl) (.int .i64 bd) (.int .i64 bd) = wc at HWN ⊢
              clear hwc o0 o1 o2 o3 o4
              have hbn : Below wr.heap.size wr (wr.alloc (.cells wc 70)) := (Below.refl _ wr).alloc (Nat.le_refl _) _
              have HM2 := Lib.hid (hM.out.grow hbn)
              obtain ⟨b, hb⟩ : ∃ z, z = wr.heap.size := ⟨_, rfl⟩
              rw [← hb] at HWN ⊢
              clear hb hbn
              generalize wr.alloc (.cells wc 70) = w5 at HWN HM2 ⊢
              have HSE : Hid (∀ W, Below w5.heap.size w5 W → Calls Try.prog 20 #[.pointer (some ⟨b, 0, none⟩), .int .i64 x, .int .i64 y, .agg #[.func (.func 47) #[] #[], .func (.func 46) #[] #[]]] W fun e w' => e = .returned (.bool ans) ∧ Below W.heap.size W w') := Lib.hid fun W h => by
                rw [HAN.out]
                have hl : PfL W.heap.size W (p.own xs bd) ab ao ac g9 0 cap9 := by
                  have h1 := (HM2.out.grow h)
                  have h2 := h1.l.mono h1.be.size
                  refine ⟨h2.lab, (h1.ow.lt g9 rfl).2, h2.ca, fun i hi => ?_⟩
                  have hi' : i < xs.length := by have e : (p.own xs bd).gr.length = xs.length := List.length_map _; omega
                  rw [own_g i hi']
                  have hk' : k = xs.length := HML.out
                  have hlen : i < ((xs.take k).map (fun x => (x, x))).length := by rw [List.length_map, List.length_take]; omega
                  have e1 : ((xs.take k).map (fun x => (x, x)))[i] = (xs.getD i 0, xs.getD i 0) := by
                    rw [List.getElem_map, List.getElem_take, List.getD_eq_getElem?_getD, List.getElem?_eq_getElem hi']; rfl
                  have c1 := h1.ow.cells (g := g9) rfl _ _ (spans_lo _ i hlen)
                  have c2 := h1.ow.cells (g := g9) rfl _ _ (spans_hi _ i hlen)
                  rw [e1, Addr.add_lit] at c1 c2
                  exact ⟨c1, c2⟩
                exact sees_worst (own_ok HP.out (by rw [← HML.out]; exact HN.out) HTR.out HIN.out) (show k = (p.own xs bd).n from HN.out) HXY.out.1 HXY.out.2 (HWN.out.grow h) hl
              go_wp2_with fail
              refine (worst_any _).mono ?_
              rintro e w6 ⟨rfl, hb6⟩
              have HM6 := Lib.hid (HM2.out.grow hb6)
              have HS6 := Lib.hid (HSE.out _ hb6)
              clear hb6 HSE
              go_wp2_with fail
              refine HS6.out.mono ?_
              rintro e w7 ⟨rfl, hb7⟩
              have HM7 := Lib.hid (HM6.out.grow hb7)
              clear hb7
              go_wp2
              go_ret2
              exact ⟨by rw [HF.out]; rfl, HM7.out.be⟩
    · have g1 : ((m : Int) != (n : Int)) = true := by rw [bne_iff_ne]; omega
      have HE : Hid (sa = .tuple #[.bool false, .int .i64 2]) := Lib.hid (by rw [HSA.out, realAns, if_neg (by rw [← HER.out]; simp [he]), if_neg (by rw [← HML.out, ← HN.out]; intro h; exact hmn h.1)])
      clear hmn
      go_wp2
      go_ret2
      exact ⟨by rw [HE.out]; rfl, HB2.out⟩
  · have HE : Hid (sa = .tuple #[.bool false, .int .i64 er]) := Lib.hid (by rw [HSA.out, realAns, if_pos (by rw [← HER.out]; exact he), ← HER.out])
    have d1 : (er != 0) = true := by simp [he]
    clear he
    go_wp2
    go_ret2
    exact ⟨by rw [HE.out]; rfl, HB2.out⟩
end Go.Proofs.Ytohjinbgbfggcaa
