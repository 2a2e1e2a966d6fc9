/-
  Parts of the proof, in the order in which they build: EzO, EzP.
-/
import Derived.Great.BuildSlice
import Derived.Test.YtkjcnkkmhkcddaaA58
import Derived.Test.YtkjcnkkmhkcddaaC1
import Derived.Test.YtkjcnkkmhkcddaaA56
set_option linter.unusedVariables false
set_option linter.unusedSimpArgs false
/-
  Maps that are looked at otherwise, as the law EnclaveTurned makes them.
-/
namespace Go.Proofs.Ytkjcnkkmhkcddaa

section
variable {m m' : Mp} {s t : Nat → Nat} {r r' : Nat → Nat} {k k' : Nat} {T O T' O' : Nat → Int} {p : Nat}
theorem Iso.kept (I : Iso m m' s t) (hm : m.Ok) (hm' : m'.Ok) (hr : IsReg m r) (hr' : IsReg m' r') (hT : IsMany m r k) (hT' : IsMany m' r' k') (h1 : ∀ j, j < k → IsOutm m r k T j) (h2 : IsGiv m r T O m.n) (h1' : ∀ j, j < k' → IsOutm m' r' k' T' j) (h2' : IsGiv m' r' T' O' m'.n) (hp : p < m.n) (h : O p = m.own p) : O' (s p) = m'.own (s p) := by
  have a := giv_hull hr hT h1 h2 hp
  obtain ⟨q, hq, hqo, hh⟩ := I.hull hm hm' hr hr' hT hT' hp a
  have hsp : s p < m'.n := by rw [I.n]; exact I.to p hp
  have b := giv_hull hr' hT' h1' h2' hsp
  have c := Hull.unique hm' hr' hsp b hh
  rw [c]
  exact ((I.own p q hp hq).1 (by rw [← h, hqo])).symm
theorem Iso.givs (I : Iso m m' s t) (hm : m.Ok) (hm' : m'.Ok) (hr : IsReg m r) (hr' : IsReg m' r') (hT : IsMany m r k) (hT' : IsMany m' r' k') (h1 : ∀ j, j < k → IsOutm m r k T j) (h2 : IsGiv m r T O m.n) (h1' : ∀ j, j < k' → IsOutm m' r' k' T' j) (h2' : IsGiv m' r' T' O' m'.n) (hp : p < m.n) : O p ≠ m.own p ↔ O' (s p) ≠ m'.own (s p) := by
  constructor
  · intro h h'
    have := I.symm.kept hm' hm hr' hr hT' hT h1' h2' h1 h2 (p := s p) (by rw [I.n]; exact I.to p hp) h'
    rw [I.ts p hp] at this
    exact h this
  · exact fun h h' => h (I.kept hm hm' hr hr' hT hT' h1 h2 h1' h2' hp h')
theorem mem_plotL {O own : Nat → Int} {x : Nat} : ∀ n, x ∈ plotL O own n ↔ x < n ∧ O x ≠ own x
  | 0 => by simp [plotL]
  | n + 1 => by
    rw [plotL, List.mem_append, mem_plotL n]
    by_cases e : O n ≠ own n
    · rw [if_pos e, List.mem_singleton]
      constructor
      · rintro (h | rfl)
        · exact ⟨by omega, h.2⟩
        · exact ⟨by omega, e⟩
      · rintro ⟨h1, h2⟩
        by_cases h3 : x = n
        · exact .inr h3
        · exact .inl ⟨by omega, h2⟩
    · rw [if_neg e]
      constructor
      · rintro (h | h)
        · exact ⟨by omega, h.2⟩
        · cases h
      · rintro ⟨h1, h2⟩
        exact .inl ⟨by by_cases h3 : x = n; exact absurd (h3 ▸ h2) e; omega, h2⟩
theorem nodup_plotL (O own : Nat → Int) : ∀ n, (plotL O own n).Nodup
  | 0 => List.nodup_nil
  | n + 1 => by
    rw [plotL]
    refine List.nodup_append.2 ⟨nodup_plotL O own n, by split <;> simp, fun a ha b hb e => ?_⟩
    have h1 := ((mem_plotL n).1 ha).1
    by_cases h2 : O n ≠ own n
    · rw [if_pos h2, List.mem_singleton] at hb; omega
    · rw [if_neg h2] at hb; cases hb
theorem Iso.plots_le (I : Iso m m' s t) (hm : m.Ok) (hm' : m'.Ok) (hr : IsReg m r) (hr' : IsReg m' r') (hT : IsMany m r k) (hT' : IsMany m' r' k') (h1 : ∀ j, j < k → IsOutm m r k T j) (h2 : IsGiv m r T O m.n) (h1' : ∀ j, j < k' → IsOutm m' r' k' T' j) (h2' : IsGiv m' r' T' O' m'.n) : (plotL O m.own m.n).length ≤ (plotL O' m'.own m'.n).length := by
  have h := nodup_length (l := (plotL O m.own m.n).map s) (l' := plotL O' m'.own m'.n) ?_ ?_
  · simpa using h
  · refine List.pairwise_map.2 (List.Pairwise.imp_of_mem (fun {a b} ha hb hab e => hab ?_) (nodup_plotL _ _ _))
    have ha := ((mem_plotL _).1 ha).1
    have hb := ((mem_plotL _).1 hb).1
    rw [← I.ts a ha, ← I.ts b hb, e]
  · intro x hx
    obtain ⟨a, ha, rfl⟩ := List.mem_map.1 hx
    obtain ⟨ha1, ha2⟩ := (mem_plotL _).1 ha
    exact (mem_plotL _).2 ⟨by rw [I.n]; exact I.to a ha1, (I.givs hm hm' hr hr' hT hT' h1 h2 h1' h2' ha1).1 ha2⟩
theorem Iso.plots (I : Iso m m' s t) (hm : m.Ok) (hm' : m'.Ok) (hr : IsReg m r) (hr' : IsReg m' r') (hT : IsMany m r k) (hT' : IsMany m' r' k') (h1 : ∀ j, j < k → IsOutm m r k T j) (h2 : IsGiv m r T O m.n) (h1' : ∀ j, j < k' → IsOutm m' r' k' T' j) (h2' : IsGiv m' r' T' O' m'.n) : (plotL O' m'.own m'.n).length = (plotL O m.own m.n).length := by
  have a := I.plots_le hm hm' hr hr' hT hT' h1 h2 h1' h2'
  have b := I.symm.plots_le hm' hm hr' hr hT' hT h1' h2' h1 h2
  omega
end
/-- a map that is the same -/
structure SameM (m : Mp) (xw : Nat) (xs : List Int) (s t : Nat → Nat) : Prop where
  er : errE xw xs = 0
  len : xs.length = m.n
  iso : Iso m ⟨xw, xs⟩ s t
theorem SameM.ok {m : Mp} {xw : Nat} {xs : List Int} {s t : Nat → Nat} (h : SameM m xw xs s t) : Mp.Ok ⟨xw, xs⟩ := by
  have := (errE_ok h.er).1
  rwa [Int.toNat_natCast] at this
theorem getD_setM (l : List Int) (i j : Nat) (v : Int) : (l.set i v).getD j 0 = if i = j ∧ j < l.length then v else l.getD j 0 := by
  rw [List.getD_eq_getElem?_getD, List.getD_eq_getElem?_getD, List.getElem?_set]
  by_cases h : i = j
  · subst h
    by_cases h2 : i < l.length
    · simp [h2]
    · simp [h2]
  · simp [h]
/-- ahead of plot t: the lists that the law writes -/
structure TurL (wd hi t : Nat) (os mi pl na ba ta : List Int) : Prop where
  l1 : mi.length = wd * hi
  l2 : pl.length = wd * hi
  l3 : na.length = wd * hi
  l4 : ba.length = wd * hi
  l5 : ta.length = wd * hi
  mi : ∀ a, a < t → mi.getD a 0 = (mirror wd a : Nat)
  pl : ∀ a, a < t → pl.getD a 0 = (place wd hi a : Nat)
  na : ∀ a, a < wd * hi → na.getD a 0 = if a < t then 9 - os.getD a 0 else os.getD a 0
  ba : ∀ a, a < t → ba.getD (mirror wd a) 0 = os.getD a 0
  ta : ∀ a, a < t → ta.getD (place wd hi a) 0 = os.getD a 0
theorem mirror_lt {wd hi a : Nat} (hw : 0 < wd) (ha : a < wd * hi) : mirror wd a < wd * hi := by
  have h2 : a / wd < hi := Nat.div_lt_of_lt_mul ha
  have h3 : (a / wd + 1) * wd ≤ hi * wd := Nat.mul_le_mul_right _ h2
  have h4 : (a / wd + 1) * wd = a / wd * wd + wd := Nat.succ_mul _ _
  rw [h4, Nat.mul_comm hi] at h3
  unfold mirror
  exact Nat.lt_of_lt_of_le (Nat.add_lt_add_left (by omega) _) h3
theorem mirror_inj {wd a b : Nat} (hw : 0 < wd) (h : mirror wd a = mirror wd b) : a = b := by rw [← mirror_mirror hw a, ← mirror_mirror hw b, h]
theorem place_lt {wd hi a : Nat} (hw : 0 < wd) (ha : a < wd * hi) : place wd hi a < wd * hi := by
  have h1 := Nat.mod_lt a hw
  have h2 : a / wd < hi := Nat.div_lt_of_lt_mul ha
  have h3 : (a % wd + 1) * hi ≤ wd * hi := Nat.mul_le_mul_right _ h1
  have h4 : (a % wd + 1) * hi = a % wd * hi + hi := Nat.succ_mul _ _
  rw [h4] at h3
  unfold place
  exact Nat.lt_of_lt_of_le (Nat.add_lt_add_left h2 _) h3
theorem place_inj {wd hi a b : Nat} (hw : 0 < wd) (ha : a < wd * hi) (hb : b < wd * hi) (h : place wd hi a = place wd hi b) : a = b := by
  have a3 : a / wd < hi := Nat.div_lt_of_lt_mul ha
  have b3 : b / wd < hi := Nat.div_lt_of_lt_mul hb
  have h1 := at_xy (wd := hi) (y := a % wd) a3
  have h2 := at_xy (wd := hi) (y := b % wd) b3
  unfold place at h
  rw [h] at h1
  rw [← Nat.div_add_mod a wd, ← Nat.div_add_mod b wd, h1.1.symm.trans h2.1, h1.2.symm.trans h2.2]
theorem TurL.start {wd hi : Nat} {os : List Int} (h : os.length = wd * hi) : TurL wd hi 0 os (zeros (wd * hi)) (zeros (wd * hi)) os os os :=
  ⟨zeros_len _, zeros_len _, h, h, h, fun a ha => absurd ha (Nat.not_lt_zero a), fun a ha => absurd ha (Nat.not_lt_zero a), fun a _ => by rw [if_neg (Nat.not_lt_zero a)], fun a ha => absurd ha (Nat.not_lt_zero a), fun a ha => absurd ha (Nat.not_lt_zero a)⟩
theorem TurL.step {wd hi t : Nat} {os mi pl na ba ta : List Int} (hw : 0 < wd) (ht : t < wd * hi) (h : TurL wd hi t os mi pl na ba ta) :
    TurL wd hi (t + 1) os (mi.set t (mirror wd t : Nat)) (pl.set t (place wd hi t : Nat)) (na.set t (9 - os.getD t 0)) (ba.set (mirror wd t) (os.getD t 0)) (ta.set (place wd hi t) (os.getD t 0)) := by
  refine ⟨by rw [List.length_set, h.l1], by rw [List.length_set, h.l2], by rw [List.length_set, h.l3], by rw [List.length_set, h.l4], by rw [List.length_set, h.l5], fun a ha => ?_, fun a ha => ?_, fun a ha => ?_, fun a ha => ?_, fun a ha => ?_⟩
  · rw [getD_setM]
    by_cases e : t = a
    · subst e; rw [if_pos ⟨rfl, by rw [h.l1]; exact ht⟩]
    · rw [if_neg (fun h => e h.1), h.mi a (by omega)]
  · rw [getD_setM]
    by_cases e : t = a
    · subst e; rw [if_pos ⟨rfl, by rw [h.l2]; exact ht⟩]
    · rw [if_neg (fun h => e h.1), h.pl a (by omega)]
  · rw [getD_setM]
    by_cases e : t = a
    · subst e; rw [if_pos ⟨rfl, by rw [h.l3]; exact ht⟩, if_pos (by omega)]
    · rw [if_neg (fun h => e h.1), h.na a ha]
      by_cases e2 : a < t
      · rw [if_pos e2, if_pos (by omega)]
      · rw [if_neg e2, if_neg (by omega)]
  · rw [getD_setM]
    by_cases e : t = a
    · subst e; rw [if_pos ⟨rfl, by rw [h.l4]; exact mirror_lt hw ht⟩]
    · rw [if_neg (fun h => e (mirror_inj hw h.1)), h.ba a (by omega)]
  · rw [getD_setM]
    by_cases e : t = a
    · subst e; rw [if_pos ⟨rfl, by rw [h.l5]; exact place_lt hw ht⟩]
    · rw [if_neg (fun h => e (place_inj hw ht (by omega) h.1)), h.ta a (by omega)]
theorem mem_getD {l : List Int} {o : Int} (h : o ∈ l) : ∃ j, j < l.length ∧ l.getD j 0 = o := by
  obtain ⟨j, hj, e⟩ := List.getElem_of_mem h
  exact ⟨j, hj, by rw [List.getD_eq_getElem?_getD, List.getElem?_eq_getElem hj, e]; rfl⟩
theorem TurL.maps {wd hi : Nat} {os mi pl na ba ta : List Int} (h : TurL wd hi (wd * hi) os mi pl na ba ta) (hl : os.length = wd * hi) (h1 : 1 ≤ wd) (h2 : 1 ≤ hi) (hn : wd * hi ≤ 100) (ho : ∀ o ∈ os, 0 ≤ o ∧ o ≤ 3) :
    SameM ⟨wd, os⟩ wd na (fun p => p) (fun p => p) ∧ SameM ⟨wd, os⟩ wd ba (mirror wd) (mirror wd) ∧ SameM ⟨wd, os⟩ hi ta (place wd hi) (place hi wd) := by
  have hv : ∀ a, a < wd * hi → 0 ≤ os.getD a 0 ∧ os.getD a 0 ≤ 3 := fun a ha => by
    rw [List.getD_eq_getElem?_getD, List.getElem?_eq_getElem (by rw [hl]; exact ha)]
    exact ho _ (List.getElem_mem _)
  have hna : ∀ a, a < wd * hi → na.getD a 0 = 9 - os.getD a 0 := fun a ha => by rw [h.na a ha, if_pos ha]
  have e0 : errE wd os = 0 := errE_made h1 h2 hn hl (fun o h => by have := ho o h; omega)
  have hm : Mp.Ok ⟨wd, os⟩ := by have := (errE_ok e0).1; rwa [Int.toNat_natCast] at this
  have hhi : Mp.high ⟨wd, os⟩ = hi := by
    show os.length / wd = hi
    rw [hl, Nat.mul_div_cancel_left _ h1]
  have hc : hi * wd = wd * hi := Nat.mul_comm _ _
  have e1 : errE wd na = 0 := errE_made h1 h2 hn h.l3 (fun o ho => by
    obtain ⟨j, hj, rfl⟩ := mem_getD ho
    rw [h.l3] at hj
    rw [hna j hj]; have := hv j hj; omega)
  have e2 : errE wd ba = 0 := errE_made h1 h2 hn h.l4 (fun o ho => by
    obtain ⟨j, hj, rfl⟩ := mem_getD ho
    rw [h.l4] at hj
    have hj2 := mirror_lt (wd := wd) h1 hj
    have := h.ba _ hj2
    rw [mirror_mirror h1] at this
    rw [this]; have := hv _ hj2; omega)
  have e3 : errE hi ta = 0 := errE_made h2 h1 (by rw [hc]; exact hn) (by rw [hc]; exact h.l5) (fun o ho => by
    obtain ⟨j, hj, rfl⟩ := mem_getD ho
    rw [h.l5] at hj
    have a1 : j / hi < wd := Nat.div_lt_of_lt_mul (by rw [hc]; exact hj)
    have a2 := Nat.mod_lt j h2
    have a3 := at_xy (wd := wd) (y := j % hi) a1
    have a4 : place wd hi (j % hi * wd + j / hi) = j := by
      unfold place
      rw [a3.1, a3.2]
      exact xy_at hi j
    have a5 : j % hi * wd + j / hi < wd * hi := by
      have q1 : (j % hi + 1) * wd ≤ hi * wd := Nat.mul_le_mul_right _ a2
      have q2 : (j % hi + 1) * wd = j % hi * wd + wd := Nat.succ_mul _ _
      rw [q2, hc] at q1
      exact Nat.lt_of_lt_of_le (Nat.add_lt_add_left a1 _) q1
    have := h.ta _ a5
    rw [a4] at this
    rw [this]; have := hv _ a5; omega)
  have ok : ∀ {x : Nat} {l : List Int}, errE x l = 0 → Mp.Ok ⟨x, l⟩ := fun {x l} e => by have := (errE_ok e).1; rwa [Int.toNat_natCast] at this
  have hlen : Mp.n ⟨wd, os⟩ = wd * hi := hl
  refine ⟨⟨e1, by rw [hlen]; exact h.l3, iso_named (by show na.length = os.length; rw [hl, h.l3]) rfl fun p q hp hq => ?_⟩, ⟨e2, by rw [hlen]; exact h.l4, iso_mirror hm (ok e2) (by show ba.length = os.length; rw [hl, h.l4]) rfl fun p q hp hq => ?_⟩, ⟨e3, by rw [hlen]; exact h.l5, ?_⟩⟩
  · rw [hlen] at hp hq
    show os.getD p 0 = os.getD q 0 ↔ na.getD p 0 = na.getD q 0
    rw [hna p hp, hna q hq]; omega
  · rw [hlen] at hp hq
    show os.getD p 0 = os.getD q 0 ↔ ba.getD (mirror wd p) 0 = ba.getD (mirror wd q) 0
    rw [h.ba p hp, h.ba q hq]
  · have I := iso_place (m := ⟨wd, os⟩) (m' := ⟨hi, ta⟩) hm (ok e3) (by show ta.length = os.length; rw [hl, h.l5]) hhi.symm (fun p q hp hq => by
      rw [hlen] at hp hq
      rw [hhi]
      show os.getD p 0 = os.getD q 0 ↔ ta.getD (place wd hi p) 0 = ta.getD (place wd hi q) 0
      rw [h.ta p hp, h.ta q hq])
    rw [hhi] at I
    exact I
end Go.Proofs.Ytkjcnkkmhkcddaa
/-
  Maps that are looked at otherwise: the contract of the law EnclaveTurned.
-/
namespace Go.Proofs.Ytkjcnkkmhkcddaa
open Go.RowKit Go.Shelf
open Lim

attribute [local go_sem] Oper.semAt_some

theorem lClone_n {n : Nat} {wd : Int} {ov : Value} {os : List Int} {W : World} (hl : os.length = n) (hn : n ≤ 1000) (hv : RS W.heap.size W ov os.length (ints os)) :
    Calls Try.prog 13 #[.agg #[.int .i64 wd, ov]] W fun e w' => ∃ v1, e = .returned (.agg #[.int .i64 wd, v1]) ∧ (rwI v1 n os).Owned w' W.heap.size ∧ Below W.heap.size W w' := by
  have h := lClone_any (wd := wd) (w := W) (by omega) (Nat.le_refl _) hv
  rw [hl] at h
  exact h
theorem infoMap3 : (Try.prog.info? 24).map (fun i => (i.zero, i.size, i.bytes)) = some (some (.agg #[.int .i64 0, .slice none 0 0]), 2, 32) := by kernel_rfl
set_option maxRecDepth 20000 in
theorem wpList_build3M {ops : Array Oper} {rest : List Oper} {o : Oper} {a : Act} {w : World} {Q : Exit → Act → World → Prop} (hg : o.guard = none) (x y z : Operand) (ho : o.op = .buildSlice 63 3 #[(0, x), (1, y), (2, z)])
    {a0 a1 b0 b1 c0 c1 : Value} (hx : a.eval x = .agg #[a0, a1]) (hy : a.eval y = .agg #[b0, b1]) (hz : a.eval z = .agg #[c0, c1])
    (h : wpList Try.prog ops Q rest (a.put o.dst (.slice (some ⟨w.heap.size, 0, none⟩) 3 3)) (w.alloc (.cells #[a0, a1, b0, b1, c0, c1] 24))) : wpList Try.prog ops Q (o :: rest) a w := by
  obtain ⟨i0, hi, hz0, hz1, hz2⟩ := info_parts infoMap3
  refine wpList_buildSlice hg 63 24 3 _ ho _ i0 _ Try.underlying63 hi hz0 (by rw [hz1]; decide) (by rw [hz1]; decide) ?_ h
  rw [hz1]
  simp only [List.map_toArray, List.map_cons, List.map_nil, hx, hy, hz]
  kernel_rfl
set_option maxRecDepth 20000 in
set_option maxHeartbeats 8000000 in
theorem turnedl_any {B : Nat} {cv : Value} {l : List Int} {w : World} (hB : B ≤ w.heap.size) (hv : RS B w cv l.length (u8s l)) (hu : ∀ x ∈ l, 0 ≤ x ∧ x ≤ 255) :
    Calls Try.prog 6 #[cv] w fun e w' => e = .returned (.bool true) ∧ Below w.heap.size w w' := by
  have CO := Lib.hid (of_any hB hv hu)
  obtain ⟨xa, xc, rfl, -⟩ := hv
  clear hB hu
  go_enter Try.func6, Try.ntmps6
  go_wp2_with fail
  refine CO.out.mono ?_
  rintro e w1 ⟨rfl, hdk, hb, hz⟩
  have CM := Lib.hid (made_any (C := 7) (R := 7) (w := w1) (by omega) (by omega) hdk (by omega))
  have HB1 := Lib.hid hb
  clear hdk hb hz CO
  go_wp2_with fail
  refine CM.out.mono ?_
  rintro e w2 ⟨wd, hi, v, os, rfl, hwd1, hwdC, hhi1, hhiR, hos, ho3, hown, hs⟩
  obtain ⟨n, hn⟩ : ∃ n, n = wd * hi := ⟨_, rfl⟩
  have HL : Hid (os.length = wd * hi ∧ (∀ o ∈ os, 0 ≤ o ∧ o ≤ 3)) := Lib.hid ⟨hos, ho3⟩
  have HOS : Hid (os.length = n) := Lib.hid (by rw [hos, hn])
  rw [hos, ← hn] at hown
  have hn1 : 1 ≤ n := by rw [hn]; exact Nat.mul_pos hwd1 hhi1
  have hn49 : n ≤ 49 := by rw [hn]; exact Nat.mul_le_mul (n₁ := wd) (n₂ := 7) (m₁ := hi) (m₂ := 7) hwdC hhiR
  obtain ⟨g1, k1, rfl⟩ : ∃ g cap, v = .slice (some ⟨g, 0, none⟩) n cap := form_pos (r := rwI v n os) hown (show 0 < n by omega)
  have HM2 : Hid (Mem w w.heap.size [rwI (.slice (some ⟨g1, 0, none⟩) n k1) n os] [] [] w2) := Lib.hid (by
    have hb2 : Below w.heap.size w w2 := HB1.out.trans (hs.below HB1.out.size (fun k e => by omega))
    exact Mem.rowsR hb2 hb2.size (Mem.one (r := rwI (.slice (some ⟨g1, 0, none⟩) n k1) n os) (owns_mono hown HB1.out.size)))
  have HN := Lib.hid hn
  clear hs hn hown hos ho3 CM HB1
  go_upto_region 2 with (fail)
  have HM3 : Hid (Mem w w.heap.size [rwI (.slice (some ⟨g1, 0, none⟩) n k1) n os] [] [(w2.heap.size, .cells #[.int .i64 wd, .slice (some ⟨g1, 0, none⟩) n k1] 24 (0, 0))] (w2.alloc (.cells #[.int .i64 wd, .slice (some ⟨g1, 0, none⟩) n k1] 24))) := Lib.hid (HM2.out.lay _)
  obtain ⟨q, hq⟩ : ∃ q, q = w2.heap.size := ⟨_, rfl⟩
  rw [← hq] at HM3 ⊢
  generalize w2.alloc (.cells #[.int .i64 wd, .slice (some ⟨g1, 0, none⟩) n k1] 24) = w3 at HM3 ⊢
  clear HM2 hq
  obtain ⟨c0, c1, -, -⟩ := HM3.out.box2 (q := q) (t := 24) (List.mem_singleton.2 rfl)
  have hwn : ¬ wd = 0 := by omega
  have e5 : (n : Int).tdiv (wd : Int) = (hi : Int) := by rw [← Int.ofNat_tdiv, HN.out, Nat.mul_div_cancel_left _ (by omega)]
  have e6 : IntKind.i64.wrap (hi : Int) = (hi : Int) := IntWalk.i64_in _ (by omega)
  go_upto_region 3 with (fail)
  clear c0 c1 e5 e6
  have hC : (fun W => W.cell? ⟨q, 0, none⟩ = some (.int .i64 wd) ∧ W.cell? ⟨q, 1, none⟩ = some (.slice (some ⟨g1, 0, none⟩) n k1)) w3.drew := ⟨(HM3.out.drew.box2 (q := q) (a := .int .i64 wd) (b := .slice (some ⟨g1, 0, none⟩) n k1) (t := 24) (List.mem_singleton.2 rfl)).1, (HM3.out.drew.box2 (q := q) (a := .int .i64 wd) (b := .slice (some ⟨g1, 0, none⟩) n k1) (t := 24) (List.mem_singleton.2 rfl)).2.1⟩
  refine Lim.regC' (fun W => W.cell? ⟨q, 0, none⟩ = some (.int .i64 wd) ∧ W.cell? ⟨q, 1, none⟩ = some (.slice (some ⟨g1, 0, none⟩) n k1)) [] #[false, false, false, false, false, false, false, false, false, false, false, false] (by kernel_rfl) rfl ?_
  refine Lim.stepR 0 (fun _ => trivial) rfl (by kernel_rfl) (fun _ _ _ _ h => h) hC rfl ?_; apply Exists.intro; refine ⟨?_, ?_⟩
  · rintro w ⟨r0, r1⟩; go_simp; try with_reducible rfl
  simp only [Act.put, List.setIfInBounds_toArray, List.set_cons_succ, List.set_cons_zero]
  refine Lim.stepR 2 (fun _ => trivial) rfl (by kernel_rfl) (fun _ _ _ _ h => h) hC rfl ?_; apply Exists.intro; refine ⟨?_, ?_⟩
  · rintro w ⟨r0, r1⟩; go_simp; try with_reducible rfl
  simp only [Act.put, List.setIfInBounds_toArray, List.set_cons_succ, List.set_cons_zero]
  refine Lim.stepR 4 (fun _ => trivial) rfl (by kernel_rfl) (fun _ _ _ _ h => h) hC rfl ?_; apply Exists.intro; refine ⟨?_, ?_⟩
  · rintro w ⟨r0, r1⟩; go_simp; try with_reducible rfl
  simp only [Act.put, List.setIfInBounds_toArray, List.set_cons_succ, List.set_cons_zero]
  clear hC
  refine Lim.parC [1, 3, 5, 6, 7, 8, 9, 10, 11] (fun done a W => ∃ x42 x44 x46 t5 t6 t7 f11 f21 f31 p1 p2 p3, a = { tmps := #[.slice xa l.length xc, undef, .bool false, .pointer (some ⟨q, 0, none⟩), .int .i64 hi, t5, t6, t7, undef, undef, undef, undef, undef, undef, undef, undef, undef, undef, undef, undef, undef, undef, undef, undef, undef, undef, undef, undef, undef, undef, undef, undef, .slice xa l.length xc, .pointer (some ⟨w.heap.size, 0, none⟩), .agg #[.int .i64 wd, .slice (some ⟨g1, 0, none⟩) n k1], .pointer (some ⟨q, 1, none⟩), .slice (some ⟨g1, 0, none⟩) n k1, .int .i64 n, .pointer (some ⟨q, 0, none⟩), .int .i64 wd, .int .i64 hi, .agg #[.int .i64 wd, .slice (some ⟨g1, 0, none⟩) n k1], x42, .agg #[.int .i64 wd, .slice (some ⟨g1, 0, none⟩) n k1], x44, .agg #[.int .i64 wd, .slice (some ⟨g1, 0, none⟩) n k1], x46, undef, undef, undef, undef, undef, undef, undef, undef, undef, undef, undef, undef, undef, undef, undef, undef, undef, undef, undef, undef, undef, undef, undef, undef, undef, undef, undef, undef, undef, undef, undef, undef, undef, undef, undef, undef, undef, undef, undef, undef, undef, undef, undef, undef, undef, undef, undef, undef, undef, undef, undef, undef, undef, undef, undef, undef, undef, undef, undef, undef, undef, undef, undef, undef, undef, undef, undef, undef, undef, undef, undef, undef, undef, undef, undef, undef, undef, undef, undef, undef, undef, undef, undef, undef, undef, undef, undef, undef, undef, undef, undef, undef, undef, undef, undef, undef, undef, undef, undef, undef, undef, undef, undef, undef, undef, undef, undef, undef, undef, undef, undef, undef, undef, undef, undef, undef, undef, undef, undef, undef, undef, undef, undef, undef, undef, undef, undef, undef, undef, undef, undef, undef, undef, undef, undef, undef, undef, undef, undef, undef, undef, undef, undef, undef, undef, undef, undef, undef, undef, undef, undef, undef, undef, undef, undef, undef, undef, undef, undef, undef, undef, undef, undef, undef, undef, undef, undef, undef, undef, undef, undef, undef, undef, undef, undef, undef, undef, undef, undef, undef, undef, undef, undef, undef, undef, undef, undef, undef, undef, undef, undef, undef, undef, undef, undef, undef, undef, undef, undef, undef, undef, undef, undef, undef, undef, undef, undef, undef, undef, undef, undef, undef, undef, undef, undef, undef, undef, undef, undef, undef, undef, undef, undef, undef, undef, undef, undef, undef, undef, undef, undef, undef, undef, undef, undef, undef], defers := [] } ∧ Mem w w.heap.size ([rwI (.slice (some ⟨g1, 0, none⟩) n k1) n os]) (onL (done 1) [rwI f11 n os] ++ (onL (done 3) [rwI f21 n os] ++ (onL (done 5) [rwI f31 n os] ++ ([])))) (onX (done 6) p1 (cond (done 9) (Obj.cells #[.int .i64 wd, f11] 24 (0, 0)) (Obj.cells #[.int .i64 0, .slice none 0 0] 24 (0, 0))) ++ (onX (done 7) p2 (cond (done 10) (Obj.cells #[.int .i64 wd, f21] 24 (0, 0)) (Obj.cells #[.int .i64 0, .slice none 0 0] 24 (0, 0))) ++ (onX (done 8) p3 (cond (done 11) (Obj.cells #[.int .i64 wd, f31] 24 (0, 0)) (Obj.cells #[.int .i64 0, .slice none 0 0] 24 (0, 0))) ++ ([(q, Obj.cells #[.int .i64 wd, .slice (some ⟨g1, 0, none⟩) n k1] 24 (0, 0))])))) W ∧ (done 1 = true → x42 = .agg #[.int .i64 wd, f11]) ∧ (done 3 = true → x44 = .agg #[.int .i64 wd, f21]) ∧ (done 5 = true → x46 = .agg #[.int .i64 wd, f31]) ∧ (done 6 = true → t5 = .pointer (some ⟨p1, 0, none⟩)) ∧ (done 7 = true → t6 = .pointer (some ⟨p2, 0, none⟩)) ∧ (done 8 = true → t7 = .pointer (some ⟨p3, 0, none⟩)) ∧ (done 9 = true → done 1 = true ∧ done 6 = true) ∧ (done 10 = true → done 3 = true ∧ done 7 = true) ∧ (done 11 = true → done 5 = true ∧ done 8 = true)) (fun _ => trivial) (by kernel_rfl) rfl rfl ?hC ?step ?fin ⟨_, _, _, _, _, _, undef, undef, undef, 0, 0, 0, rfl, HM3.out.drew, fun h => (by cases h), fun h => (by cases h), fun h => (by cases h), fun h => (by cases h), fun h => (by cases h), fun h => (by cases h), fun h => (by cases h), fun h => (by cases h), fun h => (by cases h)⟩
  case hC =>
    rintro done a W ⟨x42, x44, x46, t5, t6, t7, f11, f21, f31, p1, p2, p3, rfl, H, e1, e3, e5, e6, e7, e8, e9, e10, e11⟩
    exact ⟨(H.box2 (q := q) (a := .int .i64 wd) (b := .slice (some ⟨g1, 0, none⟩) n k1) (t := 24) (by simp)).1, (H.box2 (q := q) (a := .int .i64 wd) (b := .slice (some ⟨g1, 0, none⟩) n k1) (t := 24) (by simp)).2.1⟩
  case step =>
    intro i o hi ho done a W hd hdep hS K hK
    obtain ⟨x42, x44, x46, t5, t6, t7, f11, f21, f31, p1, p2, p3, rfl, H, e1, e3, e5, e6, e7, e8, e9, e10, e11⟩ := hS
    simp only [List.mem_cons, List.not_mem_nil, or_false] at hi
    rcases hi with rfl | rfl | rfl | rfl | rfl | rfl | rfl | rfl | rfl
    · cases ho
      clear hdep
      have n9 : done 9 = false := by
        cases h : done 9 with
        | false => rfl
        | true => exact absurd (e9 h).1 (by rw [hd]; decide)
      rw [onL_no hd, n9] at H
      go_simp
      refine ⟨rfl, (callsIn_wide.2 (lClone_n (wd := wd) (os := os) (n := n) HOS.out (by omega) (H.rsI (v := .slice (some ⟨g1, 0, none⟩) n k1) (n := n) (.inl (.head _)) HOS.out))).mono ?_⟩
      rintro e W' ⟨c1, rfl, o1, hb⟩
      have H2 := (H.addQs hb (P := [rwI (c1) n os]) (Mem.one (r := rwI c1 n os) o1) (List.pairwise_singleton _ _)).permQ (List.Perm.refl _)
      refine hK _ _ ?_
      refine ⟨_, x44, x46, t5, t6, t7, c1, f21, f31, p1, p2, p3, rfl, ?_, (fun _ => rfl), (fun h => by simpa using e3 (by simpa using h)), (fun h => by simpa using e5 (by simpa using h)), (fun h => by simpa using e6 (by simpa using h)), (fun h => by simpa using e7 (by simpa using h)), (fun h => by simpa using e8 (by simpa using h)), (fun h => absurd (show done 9 = true by simpa using h) (by rw [n9]; decide)), (fun h => by simpa using e10 (by simpa using h)), (fun h => by simpa using e11 (by simpa using h))⟩
      show Mem w w.heap.size ([rwI (.slice (some ⟨g1, 0, none⟩) n k1) n os]) (onL (true) [rwI (c1) n os] ++ (onL (done 3) [rwI f21 n os] ++ (onL (done 5) [rwI f31 n os] ++ ([])))) (onX (done 6) p1 (cond (done 9) (Obj.cells #[.int .i64 wd, c1] 24 (0, 0)) (Obj.cells #[.int .i64 0, .slice none 0 0] 24 (0, 0))) ++ (onX (done 7) p2 (cond (done 10) (Obj.cells #[.int .i64 wd, f21] 24 (0, 0)) (Obj.cells #[.int .i64 0, .slice none 0 0] 24 (0, 0))) ++ (onX (done 8) p3 (cond (done 11) (Obj.cells #[.int .i64 wd, f31] 24 (0, 0)) (Obj.cells #[.int .i64 0, .slice none 0 0] 24 (0, 0))) ++ ([(q, Obj.cells #[.int .i64 wd, .slice (some ⟨g1, 0, none⟩) n k1] 24 (0, 0))])))) W'
      rw [n9]
      exact H2
    · cases ho
      clear hdep
      have n10 : done 10 = false := by
        cases h : done 10 with
        | false => rfl
        | true => exact absurd (e10 h).1 (by rw [hd]; decide)
      rw [onL_no hd, n10] at H
      go_simp
      refine ⟨rfl, (callsIn_wide.2 (lClone_n (wd := wd) (os := os) (n := n) HOS.out (by omega) (H.rsI (v := .slice (some ⟨g1, 0, none⟩) n k1) (n := n) (.inl (.head _)) HOS.out))).mono ?_⟩
      rintro e W' ⟨c1, rfl, o1, hb⟩
      have H2 := (H.addQs hb (P := [rwI (c1) n os]) (Mem.one (r := rwI c1 n os) o1) (List.pairwise_singleton _ _)).permQ (((List.perm_append_comm_assoc _ _ _).trans (List.Perm.append_left _ (List.Perm.refl _))))
      refine hK _ _ ?_
      refine ⟨x42, _, x46, t5, t6, t7, f11, c1, f31, p1, p2, p3, rfl, ?_, (fun h => by simpa using e1 (by simpa using h)), (fun _ => rfl), (fun h => by simpa using e5 (by simpa using h)), (fun h => by simpa using e6 (by simpa using h)), (fun h => by simpa using e7 (by simpa using h)), (fun h => by simpa using e8 (by simpa using h)), (fun h => by simpa using e9 (by simpa using h)), (fun h => absurd (show done 10 = true by simpa using h) (by rw [n10]; decide)), (fun h => by simpa using e11 (by simpa using h))⟩
      show Mem w w.heap.size ([rwI (.slice (some ⟨g1, 0, none⟩) n k1) n os]) (onL (done 1) [rwI f11 n os] ++ (onL (true) [rwI (c1) n os] ++ (onL (done 5) [rwI f31 n os] ++ ([])))) (onX (done 6) p1 (cond (done 9) (Obj.cells #[.int .i64 wd, f11] 24 (0, 0)) (Obj.cells #[.int .i64 0, .slice none 0 0] 24 (0, 0))) ++ (onX (done 7) p2 (cond (done 10) (Obj.cells #[.int .i64 wd, c1] 24 (0, 0)) (Obj.cells #[.int .i64 0, .slice none 0 0] 24 (0, 0))) ++ (onX (done 8) p3 (cond (done 11) (Obj.cells #[.int .i64 wd, f31] 24 (0, 0)) (Obj.cells #[.int .i64 0, .slice none 0 0] 24 (0, 0))) ++ ([(q, Obj.cells #[.int .i64 wd, .slice (some ⟨g1, 0, none⟩) n k1] 24 (0, 0))])))) W'
      rw [n10]
      exact H2
    · cases ho
      clear hdep
      have n11 : done 11 = false := by
        cases h : done 11 with
        | false => rfl
        | true => exact absurd (e11 h).1 (by rw [hd]; decide)
      rw [onL_no hd, n11] at H
      go_simp
      refine ⟨rfl, (callsIn_wide.2 (lClone_n (wd := wd) (os := os) (n := n) HOS.out (by omega) (H.rsI (v := .slice (some ⟨g1, 0, none⟩) n k1) (n := n) (.inl (.head _)) HOS.out))).mono ?_⟩
      rintro e W' ⟨c1, rfl, o1, hb⟩
      have H2 := (H.addQs hb (P := [rwI (c1) n os]) (Mem.one (r := rwI c1 n os) o1) (List.pairwise_singleton _ _)).permQ (((List.perm_append_comm_assoc _ _ _).trans (List.Perm.append_left _ (((List.perm_append_comm_assoc _ _ _).trans (List.Perm.append_left _ (List.Perm.refl _)))))))
      refine hK _ _ ?_
      refine ⟨x42, x44, _, t5, t6, t7, f11, f21, c1, p1, p2, p3, rfl, ?_, (fun h => by simpa using e1 (by simpa using h)), (fun h => by simpa using e3 (by simpa using h)), (fun _ => rfl), (fun h => by simpa using e6 (by simpa using h)), (fun h => by simpa using e7 (by simpa using h)), (fun h => by simpa using e8 (by simpa using h)), (fun h => by simpa using e9 (by simpa using h)), (fun h => by simpa using e10 (by simpa using h)), (fun h => absurd (show done 11 = true by simpa using h) (by rw [n11]; decide))⟩
      show Mem w w.heap.size ([rwI (.slice (some ⟨g1, 0, none⟩) n k1) n os]) (onL (done 1) [rwI f11 n os] ++ (onL (done 3) [rwI f21 n os] ++ (onL (true) [rwI (c1) n os] ++ ([])))) (onX (done 6) p1 (cond (done 9) (Obj.cells #[.int .i64 wd, f11] 24 (0, 0)) (Obj.cells #[.int .i64 0, .slice none 0 0] 24 (0, 0))) ++ (onX (done 7) p2 (cond (done 10) (Obj.cells #[.int .i64 wd, f21] 24 (0, 0)) (Obj.cells #[.int .i64 0, .slice none 0 0] 24 (0, 0))) ++ (onX (done 8) p3 (cond (done 11) (Obj.cells #[.int .i64 wd, c1] 24 (0, 0)) (Obj.cells #[.int .i64 0, .slice none 0 0] 24 (0, 0))) ++ ([(q, Obj.cells #[.int .i64 wd, .slice (some ⟨g1, 0, none⟩) n k1] 24 (0, 0))])))) W'
      rw [n11]
      exact H2
    · cases ho
      clear hdep
      have n9 : done 9 = false := by
        cases h : done 9 with
        | false => rfl
        | true => exact absurd (e9 h).2 (by rw [hd]; decide)
      rw [onX_no hd] at H
      go_simp
      have H2 := Mem.permX (X := [(W.heap.size, Obj.cells #[.int .i64 0, .slice none 0 0] 24 (0, 0))] ++ _) (H.lay (Obj.cells #[.int .i64 0, .slice none 0 0] 24 (0, 0))) (List.Perm.refl _)
      refine hK _ _ ?_
      refine ⟨x42, x44, x46, _, t6, t7, f11, f21, f31, W.heap.size, p2, p3, rfl, ?_, (fun h => by simpa using e1 (by simpa using h)), (fun h => by simpa using e3 (by simpa using h)), (fun h => by simpa using e5 (by simpa using h)), (fun _ => rfl), (fun h => by simpa using e7 (by simpa using h)), (fun h => by simpa using e8 (by simpa using h)), (fun h => absurd (show done 9 = true by simpa using h) (by rw [n9]; decide)), (fun h => by simpa using e10 (by simpa using h)), (fun h => by simpa using e11 (by simpa using h))⟩
      show Mem w w.heap.size ([rwI (.slice (some ⟨g1, 0, none⟩) n k1) n os]) (onL (done 1) [rwI f11 n os] ++ (onL (done 3) [rwI f21 n os] ++ (onL (done 5) [rwI f31 n os] ++ ([])))) (onX (true) W.heap.size (cond (done 9) (Obj.cells #[.int .i64 wd, f11] 24 (0, 0)) (Obj.cells #[.int .i64 0, .slice none 0 0] 24 (0, 0))) ++ (onX (done 7) p2 (cond (done 10) (Obj.cells #[.int .i64 wd, f21] 24 (0, 0)) (Obj.cells #[.int .i64 0, .slice none 0 0] 24 (0, 0))) ++ (onX (done 8) p3 (cond (done 11) (Obj.cells #[.int .i64 wd, f31] 24 (0, 0)) (Obj.cells #[.int .i64 0, .slice none 0 0] 24 (0, 0))) ++ ([(q, Obj.cells #[.int .i64 wd, .slice (some ⟨g1, 0, none⟩) n k1] 24 (0, 0))])))) (W.alloc (Obj.cells #[.int .i64 0, .slice none 0 0] 24 (0, 0)))
      rw [n9]
      exact H2
    · cases ho
      clear hdep
      have n10 : done 10 = false := by
        cases h : done 10 with
        | false => rfl
        | true => exact absurd (e10 h).2 (by rw [hd]; decide)
      rw [onX_no hd] at H
      go_simp
      have H2 := Mem.permX (X := [(W.heap.size, Obj.cells #[.int .i64 0, .slice none 0 0] 24 (0, 0))] ++ _) (H.lay (Obj.cells #[.int .i64 0, .slice none 0 0] 24 (0, 0))) (((List.perm_append_comm_assoc _ _ _).trans (List.Perm.append_left _ (List.Perm.refl _))))
      refine hK _ _ ?_
      refine ⟨x42, x44, x46, t5, _, t7, f11, f21, f31, p1, W.heap.size, p3, rfl, ?_, (fun h => by simpa using e1 (by simpa using h)), (fun h => by simpa using e3 (by simpa using h)), (fun h => by simpa using e5 (by simpa using h)), (fun h => by simpa using e6 (by simpa using h)), (fun _ => rfl), (fun h => by simpa using e8 (by simpa using h)), (fun h => by simpa using e9 (by simpa using h)), (fun h => absurd (show done 10 = true by simpa using h) (by rw [n10]; decide)), (fun h => by simpa using e11 (by simpa using h))⟩
      show Mem w w.heap.size ([rwI (.slice (some ⟨g1, 0, none⟩) n k1) n os]) (onL (done 1) [rwI f11 n os] ++ (onL (done 3) [rwI f21 n os] ++ (onL (done 5) [rwI f31 n os] ++ ([])))) (onX (done 6) p1 (cond (done 9) (Obj.cells #[.int .i64 wd, f11] 24 (0, 0)) (Obj.cells #[.int .i64 0, .slice none 0 0] 24 (0, 0))) ++ (onX (true) W.heap.size (cond (done 10) (Obj.cells #[.int .i64 wd, f21] 24 (0, 0)) (Obj.cells #[.int .i64 0, .slice none 0 0] 24 (0, 0))) ++ (onX (done 8) p3 (cond (done 11) (Obj.cells #[.int .i64 wd, f31] 24 (0, 0)) (Obj.cells #[.int .i64 0, .slice none 0 0] 24 (0, 0))) ++ ([(q, Obj.cells #[.int .i64 wd, .slice (some ⟨g1, 0, none⟩) n k1] 24 (0, 0))])))) (W.alloc (Obj.cells #[.int .i64 0, .slice none 0 0] 24 (0, 0)))
      rw [n10]
      exact H2
    · cases ho
      clear hdep
      have n11 : done 11 = false := by
        cases h : done 11 with
        | false => rfl
        | true => exact absurd (e11 h).2 (by rw [hd]; decide)
      rw [onX_no hd] at H
      go_simp
      have H2 := Mem.permX (X := [(W.heap.size, Obj.cells #[.int .i64 0, .slice none 0 0] 24 (0, 0))] ++ _) (H.lay (Obj.cells #[.int .i64 0, .slice none 0 0] 24 (0, 0))) (((List.perm_append_comm_assoc _ _ _).trans (List.Perm.append_left _ (((List.perm_append_comm_assoc _ _ _).trans (List.Perm.append_left _ (List.Perm.refl _)))))))
      refine hK _ _ ?_
      refine ⟨x42, x44, x46, t5, t6, _, f11, f21, f31, p1, p2, W.heap.size, rfl, ?_, (fun h => by simpa using e1 (by simpa using h)), (fun h => by simpa using e3 (by simpa using h)), (fun h => by simpa using e5 (by simpa using h)), (fun h => by simpa using e6 (by simpa using h)), (fun h => by simpa using e7 (by simpa using h)), (fun _ => rfl), (fun h => by simpa using e9 (by simpa using h)), (fun h => by simpa using e10 (by simpa using h)), (fun h => absurd (show done 11 = true by simpa using h) (by rw [n11]; decide))⟩
      show Mem w w.heap.size ([rwI (.slice (some ⟨g1, 0, none⟩) n k1) n os]) (onL (done 1) [rwI f11 n os] ++ (onL (done 3) [rwI f21 n os] ++ (onL (done 5) [rwI f31 n os] ++ ([])))) (onX (done 6) p1 (cond (done 9) (Obj.cells #[.int .i64 wd, f11] 24 (0, 0)) (Obj.cells #[.int .i64 0, .slice none 0 0] 24 (0, 0))) ++ (onX (done 7) p2 (cond (done 10) (Obj.cells #[.int .i64 wd, f21] 24 (0, 0)) (Obj.cells #[.int .i64 0, .slice none 0 0] 24 (0, 0))) ++ (onX (true) W.heap.size (cond (done 11) (Obj.cells #[.int .i64 wd, f31] 24 (0, 0)) (Obj.cells #[.int .i64 0, .slice none 0 0] 24 (0, 0))) ++ ([(q, Obj.cells #[.int .i64 wd, .slice (some ⟨g1, 0, none⟩) n k1] 24 (0, 0))])))) (W.alloc (Obj.cells #[.int .i64 0, .slice none 0 0] 24 (0, 0)))
      rw [n11]
      exact H2
    · cases ho
      have hcl := hdep 1 (by kernel_rfl) (by simp)
      have hl := hdep 6 (by kernel_rfl) (by simp)
      clear hdep
      obtain rfl := e1 hcl
      obtain rfl := e6 hl
      obtain ⟨ga0, ca0, rfl⟩ : ∃ g cap, f11 = .slice (some ⟨g, 0, none⟩) n cap := form_pos (r := rwI f11 n os) (H.q _ (by rw [onL_yes hcl]; simp)) (show 0 < n by omega)
      rw [onX_yes hl, hd] at H
      have H1 := H.permX (List.Perm.refl _).symm
      obtain ⟨z0, z1, y0, y1⟩ := H1.box2 (q := p1) (a := .int .i64 0) (b := .slice none 0 0) (t := 24) (List.mem_cons_self)
      have H2 := Mem.permX (X := [_] ++ (_)) (Mem.put2 (X1 := []) H1 (.int .i64 wd) (.slice (some ⟨ga0, 0, none⟩) n ca0)) (List.Perm.refl _)
      go_simp
      clear z0 z1 y0 y1
      refine hK _ _ ?_
      refine ⟨_, x44, x46, _, t6, t7, .slice (some ⟨ga0, 0, none⟩) n ca0, f21, f31, p1, p2, p3, rfl, ?_, (fun _ => rfl), (fun h => by simpa using e3 (by simpa using h)), (fun h => by simpa using e5 (by simpa using h)), (fun _ => rfl), (fun h => by simpa using e7 (by simpa using h)), (fun h => by simpa using e8 (by simpa using h)), (fun _ => ⟨by simpa using hcl, by simpa using hl⟩), (fun h => by simpa using e10 (by simpa using h)), (fun h => by simpa using e11 (by simpa using h))⟩
      show Mem w w.heap.size ([rwI (.slice (some ⟨g1, 0, none⟩) n k1) n os]) (onL (done 1) [rwI ((.slice (some ⟨ga0, 0, none⟩) n ca0)) n os] ++ (onL (done 3) [rwI f21 n os] ++ (onL (done 5) [rwI f31 n os] ++ ([])))) (onX (done 6) p1 (cond (true) (Obj.cells #[.int .i64 wd, (.slice (some ⟨ga0, 0, none⟩) n ca0)] 24 (0, 0)) (Obj.cells #[.int .i64 0, .slice none 0 0] 24 (0, 0))) ++ (onX (done 7) p2 (cond (done 10) (Obj.cells #[.int .i64 wd, f21] 24 (0, 0)) (Obj.cells #[.int .i64 0, .slice none 0 0] 24 (0, 0))) ++ (onX (done 8) p3 (cond (done 11) (Obj.cells #[.int .i64 wd, f31] 24 (0, 0)) (Obj.cells #[.int .i64 0, .slice none 0 0] 24 (0, 0))) ++ ([(q, Obj.cells #[.int .i64 wd, .slice (some ⟨g1, 0, none⟩) n k1] 24 (0, 0))])))) _
      rw [onX_yes hl]
      exact H2
    · cases ho
      have hcl := hdep 3 (by kernel_rfl) (by simp)
      have hl := hdep 7 (by kernel_rfl) (by simp)
      clear hdep
      obtain rfl := e3 hcl
      obtain rfl := e7 hl
      obtain ⟨ga0, ca0, rfl⟩ : ∃ g cap, f21 = .slice (some ⟨g, 0, none⟩) n cap := form_pos (r := rwI f21 n os) (H.q _ (by rw [onL_yes hcl]; simp)) (show 0 < n by omega)
      rw [onX_yes hl, hd] at H
      have H1 := H.permX (((List.perm_append_comm_assoc _ _ _).trans (List.Perm.append_left _ (List.Perm.refl _)))).symm
      obtain ⟨z0, z1, y0, y1⟩ := H1.box2 (q := p2) (a := .int .i64 0) (b := .slice none 0 0) (t := 24) (List.mem_cons_self)
      have H2 := Mem.permX (X := [_] ++ (_)) (Mem.put2 (X1 := []) H1 (.int .i64 wd) (.slice (some ⟨ga0, 0, none⟩) n ca0)) (((List.perm_append_comm_assoc _ _ _).trans (List.Perm.append_left _ (List.Perm.refl _))))
      go_simp
      clear z0 z1 y0 y1
      refine hK _ _ ?_
      refine ⟨x42, _, x46, t5, _, t7, f11, .slice (some ⟨ga0, 0, none⟩) n ca0, f31, p1, p2, p3, rfl, ?_, (fun h => by simpa using e1 (by simpa using h)), (fun _ => rfl), (fun h => by simpa using e5 (by simpa using h)), (fun h => by simpa using e6 (by simpa using h)), (fun _ => rfl), (fun h => by simpa using e8 (by simpa using h)), (fun h => by simpa using e9 (by simpa using h)), (fun _ => ⟨by simpa using hcl, by simpa using hl⟩), (fun h => by simpa using e11 (by simpa using h))⟩
      show Mem w w.heap.size ([rwI (.slice (some ⟨g1, 0, none⟩) n k1) n os]) (onL (done 1) [rwI f11 n os] ++ (onL (done 3) [rwI ((.slice (some ⟨ga0, 0, none⟩) n ca0)) n os] ++ (onL (done 5) [rwI f31 n os] ++ ([])))) (onX (done 6) p1 (cond (done 9) (Obj.cells #[.int .i64 wd, f11] 24 (0, 0)) (Obj.cells #[.int .i64 0, .slice none 0 0] 24 (0, 0))) ++ (onX (done 7) p2 (cond (true) (Obj.cells #[.int .i64 wd, (.slice (some ⟨ga0, 0, none⟩) n ca0)] 24 (0, 0)) (Obj.cells #[.int .i64 0, .slice none 0 0] 24 (0, 0))) ++ (onX (done 8) p3 (cond (done 11) (Obj.cells #[.int .i64 wd, f31] 24 (0, 0)) (Obj.cells #[.int .i64 0, .slice none 0 0] 24 (0, 0))) ++ ([(q, Obj.cells #[.int .i64 wd, .slice (some ⟨g1, 0, none⟩) n k1] 24 (0, 0))])))) _
      rw [onX_yes hl]
      exact H2
    · cases ho
      have hcl := hdep 5 (by kernel_rfl) (by simp)
      have hl := hdep 8 (by kernel_rfl) (by simp)
      clear hdep
      obtain rfl := e5 hcl
      obtain rfl := e8 hl
      obtain ⟨ga0, ca0, rfl⟩ : ∃ g cap, f31 = .slice (some ⟨g, 0, none⟩) n cap := form_pos (r := rwI f31 n os) (H.q _ (by rw [onL_yes hcl]; simp)) (show 0 < n by omega)
      rw [onX_yes hl, hd] at H
      have H1 := H.permX (((List.perm_append_comm_assoc _ _ _).trans (List.Perm.append_left _ (((List.perm_append_comm_assoc _ _ _).trans (List.Perm.append_left _ (List.Perm.refl _))))))).symm
      obtain ⟨z0, z1, y0, y1⟩ := H1.box2 (q := p3) (a := .int .i64 0) (b := .slice none 0 0) (t := 24) (List.mem_cons_self)
      have H2 := Mem.permX (X := [_] ++ (_)) (Mem.put2 (X1 := []) H1 (.int .i64 wd) (.slice (some ⟨ga0, 0, none⟩) n ca0)) (((List.perm_append_comm_assoc _ _ _).trans (List.Perm.append_left _ (((List.perm_append_comm_assoc _ _ _).trans (List.Perm.append_left _ (List.Perm.refl _)))))))
      go_simp
      clear z0 z1 y0 y1
      refine hK _ _ ?_
      refine ⟨x42, x44, _, t5, t6, _, f11, f21, .slice (some ⟨ga0, 0, none⟩) n ca0, p1, p2, p3, rfl, ?_, (fun h => by simpa using e1 (by simpa using h)), (fun h => by simpa using e3 (by simpa using h)), (fun _ => rfl), (fun h => by simpa using e6 (by simpa using h)), (fun h => by simpa using e7 (by simpa using h)), (fun _ => rfl), (fun h => by simpa using e9 (by simpa using h)), (fun h => by simpa using e10 (by simpa using h)), (fun _ => ⟨by simpa using hcl, by simpa using hl⟩)⟩
      show Mem w w.heap.size ([rwI (.slice (some ⟨g1, 0, none⟩) n k1) n os]) (onL (done 1) [rwI f11 n os] ++ (onL (done 3) [rwI f21 n os] ++ (onL (done 5) [rwI ((.slice (some ⟨ga0, 0, none⟩) n ca0)) n os] ++ ([])))) (onX (done 6) p1 (cond (done 9) (Obj.cells #[.int .i64 wd, f11] 24 (0, 0)) (Obj.cells #[.int .i64 0, .slice none 0 0] 24 (0, 0))) ++ (onX (done 7) p2 (cond (done 10) (Obj.cells #[.int .i64 wd, f21] 24 (0, 0)) (Obj.cells #[.int .i64 0, .slice none 0 0] 24 (0, 0))) ++ (onX (done 8) p3 (cond (true) (Obj.cells #[.int .i64 wd, (.slice (some ⟨ga0, 0, none⟩) n ca0)] 24 (0, 0)) (Obj.cells #[.int .i64 0, .slice none 0 0] 24 (0, 0))) ++ ([(q, Obj.cells #[.int .i64 wd, .slice (some ⟨g1, 0, none⟩) n k1] 24 (0, 0))])))) _
      rw [onX_yes hl]
      exact H2
  case fin =>
    rintro done a W hall ⟨x42, x44, x46, t5, t6, t7, f11, f21, f31, p1, p2, p3, rfl, H, e1, e3, e5, e6, e7, e8, e9, e10, e11⟩
    replace e1 := e1 (hall 1 (by simp))
    replace e3 := e3 (hall 3 (by simp))
    replace e5 := e5 (hall 5 (by simp))
    replace e6 := e6 (hall 6 (by simp))
    replace e7 := e7 (hall 7 (by simp))
    replace e8 := e8 (hall 8 (by simp))
    replace e9 := e9 (hall 9 (by simp))
    replace e10 := e10 (hall 10 (by simp))
    replace e11 := e11 (hall 11 (by simp))
    obtain rfl := e1
    obtain rfl := e6
    obtain rfl := e3
    obtain rfl := e7
    obtain rfl := e5
    obtain rfl := e8
    rw [onL_yes (hall 1 (by simp)), onL_yes (hall 3 (by simp)), onL_yes (hall 5 (by simp)), onX_yes (hall 6 (by simp)), onX_yes (hall 7 (by simp)), onX_yes (hall 8 (by simp)), hall 9 (by simp), hall 10 (by simp), hall 11 (by simp)] at H
    clear hall e9 e10 e11
    obtain ⟨a11, b11, rfl⟩ : ∃ g cap, f11 = .slice (some ⟨g, 0, none⟩) n cap := form_pos (r := rwI f11 n os) (H.q _ (by simp)) (show 0 < n by omega)
    obtain ⟨a21, b21, rfl⟩ : ∃ g cap, f21 = .slice (some ⟨g, 0, none⟩) n cap := form_pos (r := rwI f21 n os) (H.q _ (by simp)) (show 0 < n by omega)
    obtain ⟨a31, b31, rfl⟩ : ∃ g cap, f31 = .slice (some ⟨g, 0, none⟩) n cap := form_pos (r := rwI f31 n os) (H.q _ (by simp)) (show 0 < n by omega)
    have HM5 : Hid (Mem w w.heap.size [rwI (.slice (some ⟨g1, 0, none⟩) n k1) n os] [rwI (.slice (some ⟨a11, 0, none⟩) n b11) n os, rwI (.slice (some ⟨a21, 0, none⟩) n b21) n os, rwI (.slice (some ⟨a31, 0, none⟩) n b31) n os] [(p1, Obj.cells #[.int .i64 wd, .slice (some ⟨a11, 0, none⟩) n b11] 24 (0, 0)), (p2, Obj.cells #[.int .i64 wd, .slice (some ⟨a21, 0, none⟩) n b21] 24 (0, 0)), (p3, Obj.cells #[.int .i64 wd, .slice (some ⟨a31, 0, none⟩) n b31] 24 (0, 0)), (q, Obj.cells #[.int .i64 wd, .slice (some ⟨g1, 0, none⟩) n k1] 24 (0, 0))] W) := Lib.hid H
    clear H HM3
    obtain ⟨z0, z1, f0, f1⟩ := HM5.out.box2 (q := p3) (a := .int .i64 wd) (b := .slice (some ⟨a31, 0, none⟩) n b31) (t := 24) (.tail _ (.tail _ (.head _)))
    have HM6 : Hid (Mem w w.heap.size [rwI (.slice (some ⟨g1, 0, none⟩) n k1) n os] [rwI (.slice (some ⟨a11, 0, none⟩) n b11) n os, rwI (.slice (some ⟨a21, 0, none⟩) n b21) n os, rwI (.slice (some ⟨a31, 0, none⟩) n b31) n os] [(p1, Obj.cells #[.int .i64 wd, .slice (some ⟨a11, 0, none⟩) n b11] 24 (0, 0)), (p2, Obj.cells #[.int .i64 wd, .slice (some ⟨a21, 0, none⟩) n b21] 24 (0, 0)), (p3, Obj.cells #[.int .i64 hi, .slice (some ⟨a31, 0, none⟩) n b31] 24 (0, 0)), (q, Obj.cells #[.int .i64 wd, .slice (some ⟨g1, 0, none⟩) n k1] 24 (0, 0))] (W.setCell ⟨p3, 0, none⟩ (.int .i64 hi))) := Lib.hid (Mem.putX (X1 := [(p1, Obj.cells #[.int .i64 wd, .slice (some ⟨a11, 0, none⟩) n b11] 24 (0, 0)), (p2, Obj.cells #[.int .i64 wd, .slice (some ⟨a21, 0, none⟩) n b21] 24 (0, 0))]) HM5.out 0 (.int .i64 hi))
    go_upto_region 5 with (fail)
    clear z0 z1 f0 f1 HM5
    generalize W.setCell ⟨p3, 0, none⟩ (.int .i64 hi) = w5 at HM6 ⊢
    have HM7 := Lib.hid HM6.out.drew
    have hC5 : (fun W => W.cell? ⟨q, 1, none⟩ = some (.slice (some ⟨g1, 0, none⟩) n k1)) w5.drew := (HM7.out.box2 (q := q) (t := 24) (.tail _ (.tail _ (.tail _ (.head _))))).2.1
    obtain ⟨i0, hi0, hz0, hz1, hz2⟩ := info_parts Try.infoInt
    have HI := Lib.hid (And.intro hi0 (And.intro hz0 (And.intro hz1 hz2)))
    clear HM6 hi0 hz0 hz1 hz2
    refine Lim.regC' (fun W => W.cell? ⟨q, 1, none⟩ = some (.slice (some ⟨g1, 0, none⟩) n k1)) [] #[false, false, false, false, false, false, false, false, false, false] (by kernel_rfl) rfl ?_
    refine Lim.stepR 0 (fun _ => trivial) rfl (by kernel_rfl) (fun _ _ _ _ h => h) hC5 rfl ?_; apply Exists.intro; refine ⟨?_, ?_⟩
    · rintro w r1; go_simp; try with_reducible rfl
    simp only [Act.put, List.setIfInBounds_toArray, List.set_cons_succ, List.set_cons_zero]
    refine Lim.stepR 1 (fun _ => trivial) rfl (by kernel_rfl) (fun _ _ _ _ h => h) hC5 rfl ?_; apply Exists.intro; refine ⟨?_, ?_⟩
    · rintro w r1; go_simp; try with_reducible rfl
    simp only [Act.put, List.setIfInBounds_toArray, List.set_cons_succ, List.set_cons_zero]
    refine Lim.stepR 2 (fun _ => trivial) rfl (by kernel_rfl) (fun _ _ _ _ h => h) hC5 rfl ?_; apply Exists.intro; refine ⟨?_, ?_⟩
    · rintro w r1; go_simp; try with_reducible rfl
    simp only [Act.put, List.setIfInBounds_toArray, List.set_cons_succ, List.set_cons_zero]
    refine Lim.stepR 4 (fun _ => trivial) rfl (by kernel_rfl) (fun _ _ _ _ h => h) hC5 rfl ?_; apply Exists.intro; refine ⟨?_, ?_⟩
    · rintro w r1; go_simp; try with_reducible rfl
    simp only [Act.put, List.setIfInBounds_toArray, List.set_cons_succ, List.set_cons_zero]
    refine Lim.stepR 5 (fun _ => trivial) rfl (by kernel_rfl) (fun _ _ _ _ h => h) hC5 rfl ?_; apply Exists.intro; refine ⟨?_, ?_⟩
    · rintro w r1; go_simp; try with_reducible rfl
    simp only [Act.put, List.setIfInBounds_toArray, List.set_cons_succ, List.set_cons_zero]
    refine Lim.stepR 6 (fun _ => trivial) rfl (by kernel_rfl) (fun _ _ _ _ h => h) hC5 rfl ?_; apply Exists.intro; refine ⟨?_, ?_⟩
    · rintro w r1; go_simp; try with_reducible rfl
    simp only [Act.put, List.setIfInBounds_toArray, List.set_cons_succ, List.set_cons_zero]
    clear hC5
    refine Lim.parC [3, 7, 8, 9] (fun done a W => ∃ x52 x56 x8 x9, a = { tmps := #[.slice xa l.length xc, undef, .bool false, .pointer (some ⟨q, 0, none⟩), .int .i64 hi, .pointer (some ⟨p1, 0, none⟩), .pointer (some ⟨p2, 0, none⟩), .pointer (some ⟨p3, 0, none⟩), x8, x9, undef, undef, undef, undef, undef, undef, undef, undef, undef, undef, undef, undef, undef, undef, undef, undef, undef, undef, undef, undef, undef, undef, .slice xa l.length xc, .pointer (some ⟨w.heap.size, 0, none⟩), .agg #[.int .i64 wd, .slice (some ⟨g1, 0, none⟩) n k1], .pointer (some ⟨q, 1, none⟩), .slice (some ⟨g1, 0, none⟩) n k1, .int .i64 n, .pointer (some ⟨q, 0, none⟩), .int .i64 wd, .int .i64 hi, .agg #[.int .i64 wd, .slice (some ⟨g1, 0, none⟩) n k1], .agg #[.int .i64 wd, .slice (some ⟨a11, 0, none⟩) n b11], .agg #[.int .i64 wd, .slice (some ⟨g1, 0, none⟩) n k1], .agg #[.int .i64 wd, .slice (some ⟨a21, 0, none⟩) n b21], .agg #[.int .i64 wd, .slice (some ⟨g1, 0, none⟩) n k1], .agg #[.int .i64 wd, .slice (some ⟨a31, 0, none⟩) n b31], .int .i64 hi, .pointer (some ⟨p3, 0, none⟩), .pointer (some ⟨q, 1, none⟩), .slice (some ⟨g1, 0, none⟩) n k1, .int .i64 n, x52, .pointer (some ⟨q, 1, none⟩), .slice (some ⟨g1, 0, none⟩) n k1, .int .i64 n, x56, undef, undef, undef, undef, undef, undef, undef, undef, undef, undef, undef, undef, undef, undef, undef, undef, undef, undef, undef, undef, undef, undef, undef, undef, undef, undef, undef, undef, undef, undef, undef, undef, undef, undef, undef, undef, undef, undef, undef, undef, undef, undef, undef, undef, undef, undef, undef, undef, undef, undef, undef, undef, undef, undef, undef, undef, undef, undef, undef, undef, undef, undef, undef, undef, undef, undef, undef, undef, undef, undef, undef, undef, undef, undef, undef, undef, undef, undef, undef, undef, undef, undef, undef, undef, undef, undef, undef, undef, undef, undef, undef, undef, undef, undef, undef, undef, undef, undef, undef, undef, undef, undef, undef, undef, undef, undef, undef, undef, undef, undef, undef, undef, undef, undef, undef, undef, undef, undef, undef, undef, undef, undef, undef, undef, undef, undef, undef, undef, undef, undef, undef, undef, undef, undef, undef, undef, undef, undef, undef, undef, undef, undef, undef, undef, undef, undef, undef, undef, undef, undef, undef, undef, undef, undef, undef, undef, undef, undef, undef, undef, undef, undef, undef, undef, undef, undef, undef, undef, undef, undef, undef, undef, undef, undef, undef, undef, undef, undef, undef, undef, undef, undef, undef, undef, undef, undef, undef, undef, undef, undef, undef, undef, undef, undef, undef, undef, undef, undef, undef, undef, undef, undef, undef, undef, undef, undef, undef, undef, undef, undef, undef, undef, undef, undef, undef, undef, undef, undef, undef, undef, undef, undef, undef, undef, undef, undef], defers := [] } ∧ Mem w w.heap.size [rwI (.slice (some ⟨g1, 0, none⟩) n k1) n os] (onL (done 3) [rwI x52 n (zeros n)] ++ (onL (done 7) [rwI x56 n (zeros n)] ++ [rwI (.slice (some ⟨a11, 0, none⟩) n b11) n os, rwI (.slice (some ⟨a21, 0, none⟩) n b21) n os, rwI (.slice (some ⟨a31, 0, none⟩) n b31) n os])) [(p1, Obj.cells #[.int .i64 wd, .slice (some ⟨a11, 0, none⟩) n b11] 24 (0, 0)), (p2, Obj.cells #[.int .i64 wd, .slice (some ⟨a21, 0, none⟩) n b21] 24 (0, 0)), (p3, Obj.cells #[.int .i64 hi, .slice (some ⟨a31, 0, none⟩) n b31] 24 (0, 0)), (q, Obj.cells #[.int .i64 wd, .slice (some ⟨g1, 0, none⟩) n k1] 24 (0, 0))] W ∧ (done 8 = true → x8 = x52 ∧ done 3 = true) ∧ (done 9 = true → x9 = x56 ∧ done 7 = true)) (fun _ => trivial) (by kernel_rfl) rfl rfl ?hC ?step ?fin ⟨_, _, _, _, rfl, HM7.out, fun h => (by cases h), fun h => (by cases h)⟩
    case hC =>
      rintro done a W ⟨x52, x56, x8, x9, rfl, H, e8, e9⟩
      exact (H.box2 (q := q) (t := 24) (.tail _ (.tail _ (.tail _ (.head _))))).2.1
    case step =>
      intro i o hi ho done a W hd hdep hS K hK
      obtain ⟨x52, x56, x8, x9, rfl, H, e8, e9⟩ := hS
      simp only [List.mem_cons, List.not_mem_nil, or_false] at hi
      rcases hi with rfl | rfl | rfl | rfl
      · cases ho
        clear hdep
        have nN : done 8 = false := by
          cases h : done 8 with
          | false => rfl
          | true => exact absurd (e8 h).2 (by rw [hd]; decide)
        rw [onL_no hd] at H
        obtain ⟨v', W', hrun, ho1, hb, -⟩ := make_zeros (W := W) HI.out (n := n) (by omega)
        refine make_upon rfl rfl rfl hrun (hK _ _ ?_)
        simp only [Act.put, List.setIfInBounds_toArray, List.set_cons_succ, List.set_cons_zero]
        have H2 := (H.addQs hb (P := [rwI v' n (zeros n)]) (Mem.one (r := rwI v' n (zeros n)) ho1) (List.pairwise_singleton _ _)).permQ (List.Perm.refl _)
        refine ⟨_, _, _, _, rfl, ?_, (fun h => absurd (show done 8 = true by simpa using h) (by rw [nN]; decide)), (fun h => by simpa using e9 (by simpa using h))⟩
        show Mem w w.heap.size [rwI (.slice (some ⟨g1, 0, none⟩) n k1) n os] (onL (true) [rwI v' n (zeros n)] ++ (onL (done 7) [rwI x56 n (zeros n)] ++ [rwI (.slice (some ⟨a11, 0, none⟩) n b11) n os, rwI (.slice (some ⟨a21, 0, none⟩) n b21) n os, rwI (.slice (some ⟨a31, 0, none⟩) n b31) n os])) [(p1, Obj.cells #[.int .i64 wd, .slice (some ⟨a11, 0, none⟩) n b11] 24 (0, 0)), (p2, Obj.cells #[.int .i64 wd, .slice (some ⟨a21, 0, none⟩) n b21] 24 (0, 0)), (p3, Obj.cells #[.int .i64 hi, .slice (some ⟨a31, 0, none⟩) n b31] 24 (0, 0)), (q, Obj.cells #[.int .i64 wd, .slice (some ⟨g1, 0, none⟩) n k1] 24 (0, 0))] W'
        exact H2
      · cases ho
        clear hdep
        have nN : done 9 = false := by
          cases h : done 9 with
          | false => rfl
          | true => exact absurd (e9 h).2 (by rw [hd]; decide)
        rw [onL_no hd] at H
        obtain ⟨v', W', hrun, ho1, hb, -⟩ := make_zeros (W := W) HI.out (n := n) (by omega)
        refine make_upon rfl rfl rfl hrun (hK _ _ ?_)
        simp only [Act.put, List.setIfInBounds_toArray, List.set_cons_succ, List.set_cons_zero]
        have H2 := (H.addQs hb (P := [rwI v' n (zeros n)]) (Mem.one (r := rwI v' n (zeros n)) ho1) (List.pairwise_singleton _ _)).permQ (((List.perm_append_comm_assoc _ _ _).trans (List.Perm.append_left _ (List.Perm.refl _))))
        refine ⟨_, _, _, _, rfl, ?_, (fun h => by simpa using e8 (by simpa using h)), (fun h => absurd (show done 9 = true by simpa using h) (by rw [nN]; decide))⟩
        show Mem w w.heap.size [rwI (.slice (some ⟨g1, 0, none⟩) n k1) n os] (onL (done 3) [rwI x52 n (zeros n)] ++ (onL (true) [rwI v' n (zeros n)] ++ [rwI (.slice (some ⟨a11, 0, none⟩) n b11) n os, rwI (.slice (some ⟨a21, 0, none⟩) n b21) n os, rwI (.slice (some ⟨a31, 0, none⟩) n b31) n os])) [(p1, Obj.cells #[.int .i64 wd, .slice (some ⟨a11, 0, none⟩) n b11] 24 (0, 0)), (p2, Obj.cells #[.int .i64 wd, .slice (some ⟨a21, 0, none⟩) n b21] 24 (0, 0)), (p3, Obj.cells #[.int .i64 hi, .slice (some ⟨a31, 0, none⟩) n b31] 24 (0, 0)), (q, Obj.cells #[.int .i64 wd, .slice (some ⟨g1, 0, none⟩) n k1] 24 (0, 0))] W'
        exact H2
      · cases ho
        have h3 := hdep 3 (by kernel_rfl) (by simp)
        clear hdep
        go_simp
        refine hK _ _ ?_
        exact ⟨_, _, _, _, rfl, H, (fun _ => ⟨rfl, by simpa using h3⟩), (fun h => by simpa using e9 (by simpa using h))⟩
      · cases ho
        have h3 := hdep 7 (by kernel_rfl) (by simp)
        clear hdep
        go_simp
        refine hK _ _ ?_
        exact ⟨_, _, _, _, rfl, H, (fun h => by simpa using e8 (by simpa using h)), (fun _ => ⟨rfl, by simpa using h3⟩)⟩
    case fin =>
      rintro done a W hall ⟨x52, x56, x8, x9, rfl, H, e8, e9⟩
      obtain ⟨rfl, -⟩ := e8 (hall 8 (by simp))
      obtain ⟨rfl, -⟩ := e9 (hall 9 (by simp))
      rw [onL_yes (hall 3 (by simp)), onL_yes (hall 7 (by simp))] at H
      obtain ⟨m1, o1, rfl⟩ : ∃ g cap, x8 = .slice (some ⟨g, 0, none⟩) n cap := form_pos (r := rwI x8 n (zeros n)) (H.q _ (.head _)) (show 0 < n by omega)
      obtain ⟨m2, o2, rfl⟩ : ∃ g cap, x9 = .slice (some ⟨g, 0, none⟩) n cap := form_pos (r := rwI x9 n (zeros n)) (H.q _ (.tail _ (.head _))) (show 0 < n by omega)
      have HM8 : Hid (Mem w w.heap.size [rwI (.slice (some ⟨g1, 0, none⟩) n k1) n os] [rwI (.slice (some ⟨m1, 0, none⟩) n o1) n (zeros n), rwI (.slice (some ⟨m2, 0, none⟩) n o2) n (zeros n), rwI (.slice (some ⟨a11, 0, none⟩) n b11) n os, rwI (.slice (some ⟨a21, 0, none⟩) n b21) n os, rwI (.slice (some ⟨a31, 0, none⟩) n b31) n os] [(p1, Obj.cells #[.int .i64 wd, .slice (some ⟨a11, 0, none⟩) n b11] 24 (0, 0)), (p2, Obj.cells #[.int .i64 wd, .slice (some ⟨a21, 0, none⟩) n b21] 24 (0, 0)), (p3, Obj.cells #[.int .i64 hi, .slice (some ⟨a31, 0, none⟩) n b31] 24 (0, 0)), (q, Obj.cells #[.int .i64 wd, .slice (some ⟨g1, 0, none⟩) n k1] 24 (0, 0))] W) := Lib.hid H
      clear H hall HM7
      obtain ⟨w9, rfl⟩ : ∃ w9, w9 = W := ⟨_, rfl⟩
      obtain ⟨c0, c1, -, -⟩ := HM8.out.box2 (q := q) (t := 24) (.tail _ (.tail _ (.tail _ (.head _))))
      go_wp2_with fail
      go_loopw [60] (fun iv W => ∃ t : Nat, t ≤ n ∧ iv = .int .i64 t ∧ ∃ mi pl na ba ta : List Int, Hid (TurL wd hi t os mi pl na ba ta) ∧ Hid (Mem w w.heap.size [rwI (.slice (some ⟨g1, 0, none⟩) n k1) n os] [rwI (.slice (some ⟨m1, 0, none⟩) n o1) n mi, rwI (.slice (some ⟨m2, 0, none⟩) n o2) n pl, rwI (.slice (some ⟨a11, 0, none⟩) n b11) n na, rwI (.slice (some ⟨a21, 0, none⟩) n b21) n ba, rwI (.slice (some ⟨a31, 0, none⟩) n b31) n ta] [(p1, Obj.cells #[.int .i64 wd, .slice (some ⟨a11, 0, none⟩) n b11] 24 (0, 0)), (p2, Obj.cells #[.int .i64 wd, .slice (some ⟨a21, 0, none⟩) n b21] 24 (0, 0)), (p3, Obj.cells #[.int .i64 hi, .slice (some ⟨a31, 0, none⟩) n b31] 24 (0, 0)), (q, Obj.cells #[.int .i64 wd, .slice (some ⟨g1, 0, none⟩) n k1] 24 (0, 0))] W)) (fun iv _ => n - (intOf iv).toNat)
      case atStart => exact ⟨0, Nat.zero_le _, rfl, zeros n, zeros n, os, os, os, Lib.hid (by have h := TurL.start (wd := wd) (hi := hi) HL.out.1; rw [← HN.out] at h; exact h), HM8⟩
      case round =>
        clear HM8 c0 c1
        obtain ⟨t, ht, rfl, mi, pl, na, ba, ta, HT, HM⟩ := hrel
        by_cases hlt : t < n
        · have ht64 : (t : Int) < (n : Int) := by omega
          have HLN : Hid (t < wd * hi) := Lib.hid (by rw [← HN.out]; exact hlt)
          obtain ⟨oi, hoi⟩ : ∃ x, x = os.getD t 0 := ⟨_, rfl⟩
          have hbd : 0 ≤ oi ∧ oi ≤ 3 := by
            rw [hoi, List.getD_eq_getElem?_getD, List.getElem?_eq_getElem (by rw [HOS.out]; exact hlt)]
            exact HL.out.2 _ (List.getElem_mem _)
          have HOI := Lib.hid hoi
          clear hoi
          have d1 : wr.cell? ⟨g1, t, none⟩ = some (.int .i64 oi) := (by have h := HM.out.cellI (g := g1) (n := n) (cap := k1) (l := os) (j := t) (.inl (.head _)) (by rw [HOS.out]; exact hlt); rw [← HOI.out] at h; exact h)
          obtain ⟨ix, hix⟩ : ∃ x, x = t % wd := ⟨_, rfl⟩
          obtain ⟨iy, hiy⟩ : ∃ x, x = t / wd := ⟨_, rfl⟩
          have e5 : (t : Int).tmod (wd : Int) = (ix : Int) := by rw [hix]; exact (Int.ofNat_tmod t wd).symm
          have e6 : (t : Int).tdiv (wd : Int) = (iy : Int) := by rw [hiy]; exact (Int.ofNat_tdiv t wd).symm
          have hixw : ix < wd := by rw [hix]; exact Nat.mod_lt _ (by omega)
          have hiyt : iy ≤ t := by rw [hiy]; exact Nat.div_le_self _ _
          have e9 : IntKind.i64.wrap (iy : Int) = (iy : Int) := IntWalk.i64_in _ (by omega)
          have HXY := Lib.hid (And.intro hix hiy)
          clear hix hiy
          have HM1 := Lib.hid HM.out.drew
          have hC9 : (fun W => W.cell? ⟨q, 0, none⟩ = some (.int .i64 wd)) wr.drew := (HM1.out.box2 (q := q) (t := 24) (.tail _ (.tail _ (.tail _ (.head _))))).1
          clear HM
          go_upto_region 9 with (fail)
          refine Lim.regC' (fun W => W.cell? ⟨q, 0, none⟩ = some (.int .i64 wd)) [] #[false, false, false, false, false, false, false, false, false, false] (by kernel_rfl) rfl ?_
          refine Lim.stepR 0 (fun _ => trivial) rfl (by kernel_rfl) (fun _ _ _ _ h => h) hC9 rfl ?_; apply Exists.intro; refine ⟨?_, ?_⟩
          · rintro w r1; go_simp; try with_reducible rfl
          simp only [Act.put, List.setIfInBounds_toArray, List.set_cons_succ, List.set_cons_zero]
          refine Lim.stepR 1 (fun _ => trivial) rfl (by kernel_rfl) (fun _ _ _ _ h => h) hC9 rfl ?_; apply Exists.intro; refine ⟨?_, ?_⟩
          · rintro w r1; go_simp; try with_reducible rfl
          simp only [Act.put, List.setIfInBounds_toArray, List.set_cons_succ, List.set_cons_zero]
          refine Lim.stepR 2 (fun _ => trivial) rfl (by kernel_rfl) (fun _ _ _ _ h => h) hC9 rfl ?_; apply Exists.intro; refine ⟨?_, ?_⟩
          · rintro w r1; go_simp; try with_reducible rfl
          simp only [Act.put, List.setIfInBounds_toArray, List.set_cons_succ, List.set_cons_zero]
          refine Lim.stepR 3 (fun _ => trivial) rfl (by kernel_rfl) (fun _ _ _ _ h => h) hC9 rfl ?_; apply Exists.intro; refine ⟨?_, ?_⟩
          · rintro w r1; go_simp; try with_reducible rfl
          simp only [Act.put, List.setIfInBounds_toArray, List.set_cons_succ, List.set_cons_zero]
          refine Lim.stepR 4 (fun _ => trivial) rfl (by kernel_rfl) (fun _ _ _ _ h => h) hC9 rfl ?_; apply Exists.intro; refine ⟨?_, ?_⟩
          · rintro w r1; go_simp; try with_reducible rfl
          simp only [Act.put, List.setIfInBounds_toArray, List.set_cons_succ, List.set_cons_zero]
          refine Lim.stepR 5 (fun _ => trivial) rfl (by kernel_rfl) (fun _ _ _ _ h => h) hC9 rfl ?_; apply Exists.intro; refine ⟨?_, ?_⟩
          · rintro w r1; go_simp; try with_reducible rfl
          simp only [Act.put, List.setIfInBounds_toArray, List.set_cons_succ, List.set_cons_zero]
          refine Lim.stepR 6 (fun _ => trivial) rfl (by kernel_rfl) (fun _ _ _ _ h => h) hC9 rfl ?_; apply Exists.intro; refine ⟨?_, ?_⟩
          · rintro w r1; go_simp; try with_reducible rfl
          simp only [Act.put, List.setIfInBounds_toArray, List.set_cons_succ, List.set_cons_zero]
          refine Lim.stepR 7 (fun _ => trivial) rfl (by kernel_rfl) (fun _ _ _ _ h => h) hC9 rfl ?_; apply Exists.intro; refine ⟨?_, ?_⟩
          · rintro w r1; go_simp; try with_reducible rfl
          simp only [Act.put, List.setIfInBounds_toArray, List.set_cons_succ, List.set_cons_zero]
          refine Lim.stepR 8 (fun _ => trivial) rfl (by kernel_rfl) (fun _ _ _ _ h => h) hC9 rfl ?_; apply Exists.intro; refine ⟨?_, ?_⟩
          · rintro w r1; go_simp; try with_reducible rfl
          simp only [Act.put, List.setIfInBounds_toArray, List.set_cons_succ, List.set_cons_zero]
          refine Lim.stepR 9 (fun _ => trivial) rfl (by kernel_rfl) (fun _ _ _ _ h => h) hC9 rfl ?_; apply Exists.intro; refine ⟨?_, ?_⟩
          · rintro w r1; go_simp; try with_reducible rfl
          simp only [Act.put, List.setIfInBounds_toArray, List.set_cons_succ, List.set_cons_zero]
          refine Lim.stepD (by kernel_rfl) ?_
          clear hC9 e5 e6 e9 d1
          generalize wr.drew = W1 at HM1 ⊢
          obtain ⟨mk, hmk⟩ : ∃ x, x = mirror wd t := ⟨_, rfl⟩
          obtain ⟨pk, hpk⟩ : ∃ x, x = place wd hi t := ⟨_, rfl⟩
          have hmkn : mk < n := by rw [hmk, HN.out]; exact mirror_lt (by omega) HLN.out
          have hpkn : pk < n := by rw [hpk, HN.out]; exact place_lt (by omega) HLN.out
          obtain ⟨a1, ha1⟩ : ∃ x, x = iy * wd := ⟨_, rfl⟩
          obtain ⟨b1, hb1⟩ : ∃ x, x = ix * hi := ⟨_, rfl⟩
          have hs1 : mk + ix + 1 = a1 + wd := by rw [hmk, ha1, HXY.out.2]; unfold mirror; rw [← HXY.out.1]; omega
          have hs2 : b1 + iy = pk := by rw [hb1, hpk, HXY.out.1, HXY.out.2]; rfl
          have m1e : (iy : Int) * (wd : Int) = (a1 : Int) := by rw [ha1]; exact (Int.natCast_mul iy wd).symm
          have m2e : (ix : Int) * (hi : Int) = (b1 : Int) := by rw [hb1]; exact (Int.natCast_mul ix hi).symm
          obtain ⟨a2, ha2⟩ : ∃ x : Nat, x = a1 + wd := ⟨_, rfl⟩
          obtain ⟨a3, ha3⟩ : ∃ x : Nat, x + 1 = a2 := ⟨a2 - 1, by omega⟩
          have e10 : IntKind.i64.wrap ((iy : Int) * (wd : Int)) = (a1 : Int) := by rw [m1e]; exact IntWalk.i64_in _ (by omega)
          have e11 : IntKind.i64.wrap ((a1 : Int) + (wd : Int)) = (a2 : Int) := by rw [IntWalk.i64_in _ (by omega)]; omega
          have e12 : IntKind.i64.wrap ((a2 : Int) - 1) = (a3 : Int) := by rw [IntWalk.i64_in _ (by omega)]; omega
          have e13 : IntKind.i64.wrap ((a3 : Int) - (ix : Int)) = (mk : Int) := by rw [IntWalk.i64_in _ (by omega)]; omega
          have e14 : IntKind.i64.wrap ((ix : Int) * (hi : Int)) = (b1 : Int) := by rw [m2e]; exact IntWalk.i64_in _ (by omega)
          have e15 : IntKind.i64.wrap ((b1 : Int) + (iy : Int)) = (pk : Int) := by rw [IntWalk.i64_in _ (by omega)]; omega
          obtain ⟨c0, -, -, -⟩ := HM1.out.box2 (q := q) (t := 24) (.tail _ (.tail _ (.tail _ (.head _))))
          have HMK := Lib.hid (And.intro hmk hpk)
          clear hmk hpk ha1 hb1 hs1 hs2 m1e m2e ha2 ha3
          have q0 : W1.cell? ⟨m1, t, none⟩ = some (.int .i64 ((mi).getD t 0)) := HM1.out.cellI (g := m1) (n := n) (cap := o1) (l := mi) (j := t) (.inr (.head _)) (by rw [HT.out.l1, ← HN.out]; exact hlt)
          have f0 : W1.frozen? ⟨m1, t, none⟩ = false := row_frz (r := rwI (.slice (some ⟨m1, 0, none⟩) n o1) n mi) (HM1.out.q _ (.head _)) rfl t
          have HA := Lib.hid (Mem.setI (Q1 := []) HM1.out t (mk : Int))
          have q1 : (W1.setCell ⟨m1, t, none⟩ (.int .i64 (mk : Int))).cell? ⟨m2, t, none⟩ = some (.int .i64 ((pl).getD t 0)) := HA.out.cellI (g := m2) (n := n) (cap := o2) (l := pl) (j := t) (.inr (.tail _ (.head _))) (by rw [HT.out.l2, ← HN.out]; exact hlt)
          have f1 : (W1.setCell ⟨m1, t, none⟩ (.int .i64 (mk : Int))).frozen? ⟨m2, t, none⟩ = false := row_frz (r := rwI (.slice (some ⟨m2, 0, none⟩) n o2) n pl) (HA.out.q _ (.tail _ (.head _))) rfl t
          have HB := Lib.hid (Mem.setI (Q1 := [rwI (.slice (some ⟨m1, 0, none⟩) n o1) n (mi.set t (mk : Int))]) HA.out t (pk : Int))
          go_upto_region 11 with (fail)
          clear c0 e10 e11 e12 e13 e14 e15 q0 f0 q1 f1 HA HM1
          generalize (W1.setCell ⟨m1, t, none⟩ (.int .i64 (mk : Int))).setCell ⟨m2, t, none⟩ (.int .i64 (pk : Int)) = W2 at HB ⊢
          obtain ⟨-, y1, -, -⟩ := HB.out.box2 (q := p1) (t := 24) (.head _)
          have q0 : W2.cell? ⟨a11, t, none⟩ = some (.int .i64 ((na).getD t 0)) := HB.out.cellI (g := a11) (n := n) (cap := b11) (l := na) (j := t) (.inr (.tail _ (.tail _ (.head _)))) (by rw [HT.out.l3, ← HN.out]; exact hlt)
          have f0 : W2.frozen? ⟨a11, t, none⟩ = false := row_frz (r := rwI (.slice (some ⟨a11, 0, none⟩) n b11) n na) (HB.out.q _ (.tail _ (.tail _ (.head _)))) rfl t
          have e16 : IntKind.i64.wrap (9 - oi) = 9 - oi := IntWalk.i64_in _ (by omega)
          have HC := Lib.hid (Mem.setI (Q1 := [rwI (.slice (some ⟨m1, 0, none⟩) n o1) n (mi.set t (mk : Int)), rwI (.slice (some ⟨m2, 0, none⟩) n o2) n (pl.set t (pk : Int))]) HB.out t (9 - oi))
          go_upto_region 12 with (fail)
          clear y1 q0 f0 e16 HB
          generalize W2.setCell ⟨a11, t, none⟩ (.int .i64 (9 - oi)) = W3 at HC ⊢
          have HD := Lib.hid HC.out.drew
          have hC12 : (fun W => W.cell? ⟨p2, 1, none⟩ = some (.slice (some ⟨a21, 0, none⟩) n b21) ∧ W.cell? ⟨p3, 1, none⟩ = some (.slice (some ⟨a31, 0, none⟩) n b31) ∧ W.cell? ⟨m1, t, none⟩ = some (.int .i64 mk) ∧ W.cell? ⟨m2, t, none⟩ = some (.int .i64 pk)) W3.drew := ⟨(HD.out.box2 (q := p2) (t := 24) (.tail _ (.head _))).2.1, (HD.out.box2 (q := p3) (t := 24) (.tail _ (.tail _ (.head _)))).2.1, (by have h := HD.out.cellI (g := m1) (n := n) (cap := o1) (l := (mi.set t (mk : Int))) (j := t) (.inr (.head _)) (by rw [List.length_set]; rw [HT.out.l1, ← HN.out]; exact hlt); rw [getD_setM, if_pos ⟨rfl, by rw [HT.out.l1, ← HN.out]; exact hlt⟩] at h; exact h), (by have h := HD.out.cellI (g := m2) (n := n) (cap := o2) (l := (pl.set t (pk : Int))) (j := t) (.inr (.tail _ (.head _))) (by rw [List.length_set]; rw [HT.out.l2, ← HN.out]; exact hlt); rw [getD_setM, if_pos ⟨rfl, by rw [HT.out.l2, ← HN.out]; exact hlt⟩] at h; exact h)⟩
          have hmk64 : (mk : Int) < (n : Int) := by omega
          have hpk64 : (pk : Int) < (n : Int) := by omega
          clear HC
          refine Lim.regC' (fun W => W.cell? ⟨p2, 1, none⟩ = some (.slice (some ⟨a21, 0, none⟩) n b21) ∧ W.cell? ⟨p3, 1, none⟩ = some (.slice (some ⟨a31, 0, none⟩) n b31) ∧ W.cell? ⟨m1, t, none⟩ = some (.int .i64 mk) ∧ W.cell? ⟨m2, t, none⟩ = some (.int .i64 pk)) [] #[false, false, false, false, false, false, false, false, false, false, false, false, false, false, false, false, false, false] (by kernel_rfl) rfl ?_
          generalize W3.drew = W4 at HD hC12 ⊢
          refine Lim.stepR 0 (fun _ => trivial) rfl (by kernel_rfl) (fun _ _ _ _ h => h) hC12 rfl ?_; apply Exists.intro; refine ⟨?_, ?_⟩
          · rintro w ⟨r1, r2, r3, r4⟩; go_simp; try with_reducible rfl
          simp only [Act.put, List.setIfInBounds_toArray, List.set_cons_succ, List.set_cons_zero]
          refine Lim.stepR 1 (fun _ => trivial) rfl (by kernel_rfl) (fun _ _ _ _ h => h) hC12 rfl ?_; apply Exists.intro; refine ⟨?_, ?_⟩
          · rintro w ⟨r1, r2, r3, r4⟩; go_simp; try with_reducible rfl
          simp only [Act.put, List.setIfInBounds_toArray, List.set_cons_succ, List.set_cons_zero]
          refine Lim.stepR 2 (fun _ => trivial) rfl (by kernel_rfl) (fun _ _ _ _ h => h) hC12 rfl ?_; apply Exists.intro; refine ⟨?_, ?_⟩
          · rintro w ⟨r1, r2, r3, r4⟩; go_simp; try with_reducible rfl
          simp only [Act.put, List.setIfInBounds_toArray, List.set_cons_succ, List.set_cons_zero]
          refine Lim.stepR 3 (fun _ => trivial) rfl (by kernel_rfl) (fun _ _ _ _ h => h) hC12 rfl ?_; apply Exists.intro; refine ⟨?_, ?_⟩
          · rintro w ⟨r1, r2, r3, r4⟩; go_simp; try with_reducible rfl
          simp only [Act.put, List.setIfInBounds_toArray, List.set_cons_succ, List.set_cons_zero]
          refine Lim.stepR 4 (fun _ => trivial) rfl (by kernel_rfl) (fun _ _ _ _ h => h) hC12 rfl ?_; apply Exists.intro; refine ⟨?_, ?_⟩
          · rintro w ⟨r1, r2, r3, r4⟩; go_simp; try with_reducible rfl
          simp only [Act.put, List.setIfInBounds_toArray, List.set_cons_succ, List.set_cons_zero]
          refine Lim.stepR 5 (fun _ => trivial) rfl (by kernel_rfl) (fun _ _ _ _ h => h) hC12 rfl ?_; apply Exists.intro; refine ⟨?_, ?_⟩
          · rintro w ⟨r1, r2, r3, r4⟩; go_simp; try with_reducible rfl
          simp only [Act.put, List.setIfInBounds_toArray, List.set_cons_succ, List.set_cons_zero]
          refine Lim.stepR 6 (fun _ => trivial) rfl (by kernel_rfl) (fun _ _ _ _ h => h) hC12 rfl ?_; apply Exists.intro; refine ⟨?_, ?_⟩
          · rintro w ⟨r1, r2, r3, r4⟩; go_simp; try with_reducible rfl
          simp only [Act.put, List.setIfInBounds_toArray, List.set_cons_succ, List.set_cons_zero]
          refine Lim.stepR 7 (fun _ => trivial) rfl (by kernel_rfl) (fun _ _ _ _ h => h) hC12 rfl ?_; apply Exists.intro; refine ⟨?_, ?_⟩
          · rintro w ⟨r1, r2, r3, r4⟩; go_simp; try with_reducible rfl
          simp only [Act.put, List.setIfInBounds_toArray, List.set_cons_succ, List.set_cons_zero]
          refine Lim.stepR 8 (fun _ => trivial) rfl (by kernel_rfl) (fun _ _ _ _ h => h) hC12 rfl ?_; apply Exists.intro; refine ⟨?_, ?_⟩
          · rintro w ⟨r1, r2, r3, r4⟩; go_simp; try with_reducible rfl
          simp only [Act.put, List.setIfInBounds_toArray, List.set_cons_succ, List.set_cons_zero]
          refine Lim.stepR 9 (fun _ => trivial) rfl (by kernel_rfl) (fun _ _ _ _ h => h) hC12 rfl ?_; apply Exists.intro; refine ⟨?_, ?_⟩
          · rintro w ⟨r1, r2, r3, r4⟩; go_simp; try with_reducible rfl
          simp only [Act.put, List.setIfInBounds_toArray, List.set_cons_succ, List.set_cons_zero]
          refine Lim.stepR 10 (fun _ => trivial) rfl (by kernel_rfl) (fun _ _ _ _ h => h) hC12 rfl ?_; apply Exists.intro; refine ⟨?_, ?_⟩
          · rintro w ⟨r1, r2, r3, r4⟩; go_simp; try with_reducible rfl
          simp only [Act.put, List.setIfInBounds_toArray, List.set_cons_succ, List.set_cons_zero]
          refine Lim.stepR 11 (fun _ => trivial) rfl (by kernel_rfl) (fun _ _ _ _ h => h) hC12 rfl ?_; apply Exists.intro; refine ⟨?_, ?_⟩
          · rintro w ⟨r1, r2, r3, r4⟩; go_simp; try with_reducible rfl
          simp only [Act.put, List.setIfInBounds_toArray, List.set_cons_succ, List.set_cons_zero]
          refine Lim.stepR 12 (fun _ => trivial) rfl (by kernel_rfl) (fun _ _ _ _ h => h) hC12 rfl ?_; apply Exists.intro; refine ⟨?_, ?_⟩
          · rintro w ⟨r1, r2, r3, r4⟩; go_simp; try with_reducible rfl
          simp only [Act.put, List.setIfInBounds_toArray, List.set_cons_succ, List.set_cons_zero]
          refine Lim.stepR 13 (fun _ => trivial) rfl (by kernel_rfl) (fun _ _ _ _ h => h) hC12 rfl ?_; apply Exists.intro; refine ⟨?_, ?_⟩
          · rintro w ⟨r1, r2, r3, r4⟩; go_simp; try with_reducible rfl
          simp only [Act.put, List.setIfInBounds_toArray, List.set_cons_succ, List.set_cons_zero]
          refine Lim.stepR 14 (fun _ => trivial) rfl (by kernel_rfl) (fun _ _ _ _ h => h) hC12 rfl ?_; apply Exists.intro; refine ⟨?_, ?_⟩
          · rintro w ⟨r1, r2, r3, r4⟩; go_simp; try with_reducible rfl
          simp only [Act.put, List.setIfInBounds_toArray, List.set_cons_succ, List.set_cons_zero]
          refine Lim.stepE 15 (fun _ => trivial) rfl (by kernel_rfl) rfl (fun K hK => ?_)   -- E store
          have q0 : W4.cell? ⟨a21, mk, none⟩ = some (.int .i64 ((ba).getD mk 0)) := HD.out.cellI (g := a21) (n := n) (cap := b21) (l := ba) (j := mk) (.inr (.tail _ (.tail _ (.tail _ (.head _))))) (by rw [HT.out.l4, ← HN.out]; exact hmkn)
          have f0 : W4.frozen? ⟨a21, mk, none⟩ = false := row_frz (r := rwI (.slice (some ⟨a21, 0, none⟩) n b21) n ba) (HD.out.q _ (.tail _ (.tail _ (.tail _ (.head _))))) rfl mk
          have HE := Lib.hid (Mem.setI (Q1 := [rwI (.slice (some ⟨m1, 0, none⟩) n o1) n (mi.set t (mk : Int)), rwI (.slice (some ⟨m2, 0, none⟩) n o2) n (pl.set t (pk : Int)), rwI (.slice (some ⟨a11, 0, none⟩) n b11) n (na.set t (9 - oi))]) HD.out mk (oi))
          have hC13 : (fun W => W.cell? ⟨p2, 1, none⟩ = some (.slice (some ⟨a21, 0, none⟩) n b21) ∧ W.cell? ⟨p3, 1, none⟩ = some (.slice (some ⟨a31, 0, none⟩) n b31) ∧ W.cell? ⟨m1, t, none⟩ = some (.int .i64 mk) ∧ W.cell? ⟨m2, t, none⟩ = some (.int .i64 pk)) (W4.setCell ⟨a21, mk, none⟩ (.int .i64 (oi))) := ⟨(HE.out.box2 (q := p2) (t := 24) (.tail _ (.head _))).2.1, (HE.out.box2 (q := p3) (t := 24) (.tail _ (.tail _ (.head _)))).2.1, (by have h := HE.out.cellI (g := m1) (n := n) (cap := o1) (l := (mi.set t (mk : Int))) (j := t) (.inr (.head _)) (by rw [List.length_set]; rw [HT.out.l1, ← HN.out]; exact hlt); rw [getD_setM, if_pos ⟨rfl, by rw [HT.out.l1, ← HN.out]; exact hlt⟩] at h; exact h), (by have h := HE.out.cellI (g := m2) (n := n) (cap := o2) (l := (pl.set t (pk : Int))) (j := t) (.inr (.tail _ (.head _))) (by rw [List.length_set]; rw [HT.out.l2, ← HN.out]; exact hlt); rw [getD_setM, if_pos ⟨rfl, by rw [HT.out.l2, ← HN.out]; exact hlt⟩] at h; exact h)⟩
          go_simp
          refine hK _ _ hC13 ?_
          clear q0 f0 hC12
          generalize W4.setCell ⟨a21, mk, none⟩ (.int .i64 (oi)) = W5 at HE hC13 ⊢
          simp only [Act.put, List.setIfInBounds_toArray, List.set_cons_succ, List.set_cons_zero]
          refine Lim.stepR 16 (fun _ => trivial) rfl (by kernel_rfl) (fun _ _ _ _ h => h) hC13 rfl ?_; apply Exists.intro; refine ⟨?_, ?_⟩
          · rintro w ⟨r1, r2, r3, r4⟩; go_simp; try with_reducible rfl
          simp only [Act.put, List.setIfInBounds_toArray, List.set_cons_succ, List.set_cons_zero]
          refine Lim.stepE 17 (fun _ => trivial) rfl (by kernel_rfl) rfl (fun K hK => ?_)   -- E store
          have q0 : W5.cell? ⟨a31, pk, none⟩ = some (.int .i64 ((ta).getD pk 0)) := HE.out.cellI (g := a31) (n := n) (cap := b31) (l := ta) (j := pk) (.inr (.tail _ (.tail _ (.tail _ (.tail _ (.head _)))))) (by rw [HT.out.l5, ← HN.out]; exact hpkn)
          have f0 : W5.frozen? ⟨a31, pk, none⟩ = false := row_frz (r := rwI (.slice (some ⟨a31, 0, none⟩) n b31) n ta) (HE.out.q _ (.tail _ (.tail _ (.tail _ (.tail _ (.head _)))))) rfl pk
          have HF := Lib.hid (Mem.setI (Q1 := [rwI (.slice (some ⟨m1, 0, none⟩) n o1) n (mi.set t (mk : Int)), rwI (.slice (some ⟨m2, 0, none⟩) n o2) n (pl.set t (pk : Int)), rwI (.slice (some ⟨a11, 0, none⟩) n b11) n (na.set t (9 - oi)), rwI (.slice (some ⟨a21, 0, none⟩) n b21) n (ba.set mk oi)]) HE.out pk (oi))
          have hC14 : (fun W => W.cell? ⟨p2, 1, none⟩ = some (.slice (some ⟨a21, 0, none⟩) n b21) ∧ W.cell? ⟨p3, 1, none⟩ = some (.slice (some ⟨a31, 0, none⟩) n b31) ∧ W.cell? ⟨m1, t, none⟩ = some (.int .i64 mk) ∧ W.cell? ⟨m2, t, none⟩ = some (.int .i64 pk)) (W5.setCell ⟨a31, pk, none⟩ (.int .i64 (oi))) := ⟨(HF.out.box2 (q := p2) (t := 24) (.tail _ (.head _))).2.1, (HF.out.box2 (q := p3) (t := 24) (.tail _ (.tail _ (.head _)))).2.1, (by have h := HF.out.cellI (g := m1) (n := n) (cap := o1) (l := (mi.set t (mk : Int))) (j := t) (.inr (.head _)) (by rw [List.length_set]; rw [HT.out.l1, ← HN.out]; exact hlt); rw [getD_setM, if_pos ⟨rfl, by rw [HT.out.l1, ← HN.out]; exact hlt⟩] at h; exact h), (by have h := HF.out.cellI (g := m2) (n := n) (cap := o2) (l := (pl.set t (pk : Int))) (j := t) (.inr (.tail _ (.head _))) (by rw [List.length_set]; rw [HT.out.l2, ← HN.out]; exact hlt); rw [getD_setM, if_pos ⟨rfl, by rw [HT.out.l2, ← HN.out]; exact hlt⟩] at h; exact h)⟩
          go_simp
          refine hK _ _ hC14 ?_
          clear q0 f0 hC13
          generalize W5.setCell ⟨a31, pk, none⟩ (.int .i64 (oi)) = W6 at HF hC14 ⊢
          simp only [Act.put, List.setIfInBounds_toArray, List.set_cons_succ, List.set_cons_zero]
          refine Lim.stepD (by kernel_rfl) ?_
          clear hC14 HE HD
          go_wp2_with fail
          go_roundw
          case rel => exact ⟨t + 1, by omega, by go_num, _, _, _, _, _, Lib.hid (by
            have h := HT.out.step (by omega) HLN.out
            rw [← HMK.out.1, ← HMK.out.2, ← HOI.out] at h
            exact h), HF⟩
          case measure => simp [intOf]; omega
        · obtain rfl : n = t := by omega
          have hT := HT.out
          rw [HN.out] at hT
          have HSM := Lib.hid (hT.maps HL.out.1 hwd1 hhi1 (by rw [← HN.out]; omega) HL.out.2)
          have HMP : Hid ((∀ a, a < n → mi.getD a 0 = (mirror wd a : Nat)) ∧ ∀ a, a < n → pl.getD a 0 = (place wd hi a : Nat)) := Lib.hid ⟨HT.out.mi, HT.out.pl⟩
          have HL5 : Hid (mi.length = n ∧ pl.length = n ∧ na.length = n ∧ ba.length = n ∧ ta.length = n) := Lib.hid (by rw [HT.out.l1, HT.out.l2, HT.out.l3, HT.out.l4, HT.out.l5, HN.out]; exact ⟨rfl, rfl, rfl, rfl, rfl⟩)
          have HE : Hid (errE (wd : Int) os = 0) := Lib.hid (errE_made hwd1 hhi1 (by rw [← HN.out]; omega) HL.out.1 (fun o h => by have := HL.out.2 o h; omega))
          have HMO : Hid (Mp.Ok ⟨wd, os⟩) := Lib.hid (by have := (errE_ok HE.out).1; rwa [Int.toNat_natCast] at this)
          obtain ⟨w10, rfl⟩ : ∃ w10, w10 = wr := ⟨_, rfl⟩
          obtain ⟨c0, c1, -, -⟩ := HM.out.box2 (q := q) (t := 24) (.tail _ (.tail _ (.tail _ (.head _))))
          have CR := Lib.hid (Regions_any (wd := wd) (B := w10.heap.size) (os := os) (w := w10) (by rw [HOS.out]; omega) (Nat.le_refl _) (HM.out.rsI (v := .slice (some ⟨g1, 0, none⟩) n k1) (n := n) (.inl (.head _)) HOS.out))
          clear hT HT ht hlt
          go_wp2_with fail
          refine CR.out.mono ?_
          rintro e w11 ⟨hb, ⟨-, vl, r, k, rfl, hr, hk, ho⟩ | ⟨hx, -⟩⟩
          case inr => exact absurd HE.out hx
          rw [Int.toNat_natCast] at hr hk
          rw [HOS.out] at ho
          obtain ⟨gl, kl, rfl⟩ : ∃ g cap, vl = .slice (some ⟨g, 0, none⟩) n cap := form_pos (r := rwI vl n (regL r n)) ho (show 0 < n by omega)
          have HR : Hid (IsReg ⟨wd, os⟩ r ∧ IsMany ⟨wd, os⟩ r k) := Lib.hid ⟨hr, hk⟩
          have hk1 : 1 ≤ k := hk.pos HMO.out
          have hkn : k ≤ n := by have := hk.le; rw [← HOS.out]; exact this
          have HM11 : Hid (Mem w w.heap.size [rwI (.slice (some ⟨gl, 0, none⟩) n kl) n (regL r n), rwI (.slice (some ⟨g1, 0, none⟩) n k1) n os] [rwI (.slice (some ⟨m1, 0, none⟩) n o1) n mi, rwI (.slice (some ⟨m2, 0, none⟩) n o2) n pl, rwI (.slice (some ⟨a11, 0, none⟩) n b11) n na, rwI (.slice (some ⟨a21, 0, none⟩) n b21) n ba, rwI (.slice (some ⟨a31, 0, none⟩) n b31) n ta] [(p1, Obj.cells #[.int .i64 wd, .slice (some ⟨a11, 0, none⟩) n b11] 24 (0, 0)), (p2, Obj.cells #[.int .i64 wd, .slice (some ⟨a21, 0, none⟩) n b21] 24 (0, 0)), (p3, Obj.cells #[.int .i64 hi, .slice (some ⟨a31, 0, none⟩) n b31] 24 (0, 0)), (q, Obj.cells #[.int .i64 wd, .slice (some ⟨g1, 0, none⟩) n k1] 24 (0, 0))] w11) := Lib.hid (HM.out.addR hb (r := rwI (.slice (some ⟨gl, 0, none⟩) n kl) n (regL r n)) ho)
          clear HM hb hr hk ho CR c0 c1
          obtain ⟨c0, c1, -, -⟩ := HM11.out.box2 (q := q) (t := 24) (.tail _ (.tail _ (.tail _ (.head _))))
          have CD := Lib.hid (Depths_any (wd := wd) (B := w11.heap.size) (os := os) (w := w11) (by rw [HOS.out]; omega) (Nat.le_refl _) (HM11.out.rsI (v := .slice (some ⟨g1, 0, none⟩) n k1) (n := n) (.inl (.tail _ (.head _))) HOS.out))
          go_wp2_with fail
          refine CD.out.mono ?_
          rintro e w12 ⟨hb, ⟨-, vd, r2, k2, rfl, hr, hk, ho⟩ | ⟨hx, -⟩⟩
          case inr => exact absurd HE.out hx
          rw [Int.toNat_natCast] at hr hk ho
          obtain ⟨hrr, rfl⟩ := reg_same HR.out.1 hr HR.out.2 hk
          have hdd : depL ⟨wd, os⟩ r2 k = depL ⟨wd, os⟩ r k := List.map_congr_left (fun i _ => by rw [inCount_congr hrr])
          rw [hdd] at ho
          obtain ⟨gd, kd, rfl⟩ : ∃ g cap, vd = .slice (some ⟨g, 0, none⟩) k cap := form_pos (r := rwI vd k (depL ⟨wd, os⟩ r k)) ho (show 0 < k by omega)
          have HM12 : Hid (Mem w w.heap.size [rwI (.slice (some ⟨gd, 0, none⟩) k kd) k (depL ⟨wd, os⟩ r k), rwI (.slice (some ⟨gl, 0, none⟩) n kl) n (regL r n), rwI (.slice (some ⟨g1, 0, none⟩) n k1) n os] [rwI (.slice (some ⟨m1, 0, none⟩) n o1) n mi, rwI (.slice (some ⟨m2, 0, none⟩) n o2) n pl, rwI (.slice (some ⟨a11, 0, none⟩) n b11) n na, rwI (.slice (some ⟨a21, 0, none⟩) n b21) n ba, rwI (.slice (some ⟨a31, 0, none⟩) n b31) n ta] [(p1, Obj.cells #[.int .i64 wd, .slice (some ⟨a11, 0, none⟩) n b11] 24 (0, 0)), (p2, Obj.cells #[.int .i64 wd, .slice (some ⟨a21, 0, none⟩) n b21] 24 (0, 0)), (p3, Obj.cells #[.int .i64 hi, .slice (some ⟨a31, 0, none⟩) n b31] 24 (0, 0)), (q, Obj.cells #[.int .i64 wd, .slice (some ⟨g1, 0, none⟩) n k1] 24 (0, 0))] w12) := Lib.hid (HM11.out.addR hb (r := rwI (.slice (some ⟨gd, 0, none⟩) k kd) k (depL ⟨wd, os⟩ r k)) ho)
          clear HM11 hb hr hk ho CD c0 c1 hrr hdd
          obtain ⟨c0, c1, -, -⟩ := HM12.out.box2 (q := q) (t := 24) (.tail _ (.tail _ (.tail _ (.head _))))
          have CC := Lib.hid (Clear_any (wd := wd) (B := w12.heap.size) (os := os) (w := w12) (by rw [HOS.out]; omega) (Nat.le_refl _) (HM12.out.rsI (v := .slice (some ⟨g1, 0, none⟩) n k1) (n := n) (.inl (.tail _ (.tail _ (.head _)))) HOS.out))
          go_wp2_with fail
          refine CC.out.mono ?_
          rintro e w13 ⟨hb, ⟨hx, -⟩ | ⟨-, rc, kc, T, O, vc, pv, hrc, hkc, hT2, hO, rfl, ho, hp⟩⟩
          case inl => exact absurd HE.out hx
          rw [Int.toNat_natCast] at hrc hkc hT2 hO
          have HCL : Hid (IsReg ⟨wd, os⟩ rc ∧ IsMany ⟨wd, os⟩ rc kc ∧ (∀ j, j < kc → IsOutm ⟨wd, os⟩ rc kc T j) ∧ IsGiv ⟨wd, os⟩ rc T O os.length) := Lib.hid ⟨hrc, hkc, hT2, hO⟩
          rw [HOS.out] at ho
          obtain ⟨gv, kv, rfl⟩ : ∃ g cap, vc = .slice (some ⟨g, 0, none⟩) n cap := form_pos (r := rwI vc n ((List.range n).map O)) ho (show 0 < n by omega)
          obtain ⟨P, hP⟩ : ∃ P : List Int, P = (plotL O (fun p => os.getD p 0) os.length).map Int.ofNat := ⟨_, rfl⟩
          have hp2 : (rwI pv P.length P).Owned w13 w12.heap.size := by
            show w13.ownsRow _ _ _ pv P.length (ints P)
            rw [hP, List.length_map]; exact hp
          obtain ⟨pa, pc, rfl, -⟩ := RS.of_owns (show w13.ownsRow w12.heap.size 3 1 pv P.length (ints P) from hp2)
          have HP := Lib.hid hP
          have hPn : P.length ≤ n := by rw [hP, List.length_map, ← HOS.out]; exact plotL_le _ _ _
          have HM13 : Hid (Mem w w.heap.size [rwI (.slice pa P.length pc) P.length P, rwI (.slice (some ⟨gd, 0, none⟩) k kd) k (depL ⟨wd, os⟩ r k), rwI (.slice (some ⟨gl, 0, none⟩) n kl) n (regL r n), rwI (.slice (some ⟨g1, 0, none⟩) n k1) n os] [rwI (.slice (some ⟨m1, 0, none⟩) n o1) n mi, rwI (.slice (some ⟨m2, 0, none⟩) n o2) n pl, rwI (.slice (some ⟨a11, 0, none⟩) n b11) n na, rwI (.slice (some ⟨a21, 0, none⟩) n b21) n ba, rwI (.slice (some ⟨a31, 0, none⟩) n b31) n ta] [(p1, Obj.cells #[.int .i64 wd, .slice (some ⟨a11, 0, none⟩) n b11] 24 (0, 0)), (p2, Obj.cells #[.int .i64 wd, .slice (some ⟨a21, 0, none⟩) n b21] 24 (0, 0)), (p3, Obj.cells #[.int .i64 hi, .slice (some ⟨a31, 0, none⟩) n b31] 24 (0, 0)), (q, Obj.cells #[.int .i64 wd, .slice (some ⟨g1, 0, none⟩) n k1] 24 (0, 0))] w13) := Lib.hid (HM12.out.addR hb (r := rwI (.slice pa P.length pc) P.length P) hp2)
          clear HM12 hb hrc hkc hT2 hO ho hp hp2 hP CC c0 c1
          go_upto_region 17 with (fail)
          have HM14 : Hid (Mem w w.heap.size [rwI (.slice pa P.length pc) P.length P, rwI (.slice (some ⟨gd, 0, none⟩) k kd) k (depL ⟨wd, os⟩ r k), rwI (.slice (some ⟨gl, 0, none⟩) n kl) n (regL r n), rwI (.slice (some ⟨g1, 0, none⟩) n k1) n os] [rwI (.slice (some ⟨m1, 0, none⟩) n o1) n mi, rwI (.slice (some ⟨m2, 0, none⟩) n o2) n pl, rwI (.slice (some ⟨a11, 0, none⟩) n b11) n na, rwI (.slice (some ⟨a21, 0, none⟩) n b21) n ba, rwI (.slice (some ⟨a31, 0, none⟩) n b31) n ta] [(p1, Obj.cells #[.int .i64 wd, .slice (some ⟨a11, 0, none⟩) n b11] 24 (0, 0)), (p2, Obj.cells #[.int .i64 wd, .slice (some ⟨a21, 0, none⟩) n b21] 24 (0, 0)), (p3, Obj.cells #[.int .i64 hi, .slice (some ⟨a31, 0, none⟩) n b31] 24 (0, 0)), (q, Obj.cells #[.int .i64 wd, .slice (some ⟨g1, 0, none⟩) n k1] 24 (0, 0))] (w13.alloc (.cells #[.int .i64 wd, .slice (some ⟨gv, 0, none⟩) n kv] 24))) := Lib.hid (HM13.out.grow ((Below.refl _ _).alloc (Nat.le_refl _) _))
          generalize w13.alloc (.cells #[.int .i64 wd, .slice (some ⟨gv, 0, none⟩) n kv] 24) = w14 at HM14 ⊢
          clear HM13
          obtain ⟨c0, c1, -, -⟩ := HM14.out.box2 (q := q) (t := 24) (.tail _ (.tail _ (.tail _ (.head _))))
          have CMA : Hid (Calls Try.prog 34 #[.slice (some ⟨gl, 0, none⟩) n kl] w14 fun e w' => e = .returned (.int .i64 (k : Nat)) ∧ w14 = w') := Lib.hid (by
            have h := many_any (l := regL r n) (B := w14.heap.size) (w := w14) (by rw [regL_length]; omega) (fun x hx => by
              obtain ⟨p, hp, rfl⟩ := List.mem_map.1 hx
              have h1 := HR.out.1.le p (by show p < os.length; rw [HOS.out]; exact List.mem_range.1 hp)
              have h2 := List.mem_range.1 hp
              omega) (HM14.out.rsI (v := .slice (some ⟨gl, 0, none⟩) n kl) (n := n) (.inl (.tail _ (.tail _ (.head _)))) (regL_length r n))
            have h2 := many_reg HMO.out HR.out.2
            rw [show Mp.n ⟨wd, os⟩ = n from HOS.out] at h2
            rw [h2] at h
            exact h.mono (fun e w' h => ⟨h.1, h.2.symm⟩))
          go_wp2_with fail
          refine CMA.out.mono ?_
          rintro e w15 ⟨rfl, rfl⟩
          go_upto_region 19 with (fail)
          clear c0 c1 CMA
          obtain ⟨b0, b1, -, -⟩ := HM14.out.box2 (q := p1) (t := 24) (.head _)
          obtain ⟨b2, b3, -, -⟩ := HM14.out.box2 (q := p2) (t := 24) (.tail _ (.head _))
          obtain ⟨b4, b5, -, -⟩ := HM14.out.box2 (q := p3) (t := 24) (.tail _ (.tail _ (.head _)))
          have HM15 := Lib.hid (HM14.out.lay (.cells #[.int .i64 wd, .slice (some ⟨a11, 0, none⟩) n b11, .int .i64 wd, .slice (some ⟨a21, 0, none⟩) n b21, .int .i64 hi, .slice (some ⟨a31, 0, none⟩) n b31] 24))
          clear HM14
          go_wp2_with (refine wpList_build3M rfl _ _ _ rfl rfl rfl rfl ?_)
          obtain ⟨gx, hgx⟩ : ∃ q, q = w14.heap.size := ⟨_, rfl⟩
          simp only [← hgx]
          have HM16 : Hid (Mem w w.heap.size [rwI (.slice pa P.length pc) P.length P, rwI (.slice (some ⟨gd, 0, none⟩) k kd) k (depL ⟨wd, os⟩ r k), rwI (.slice (some ⟨gl, 0, none⟩) n kl) n (regL r n), rwI (.slice (some ⟨g1, 0, none⟩) n k1) n os] [rwI (.slice (some ⟨m1, 0, none⟩) n o1) n mi, rwI (.slice (some ⟨m2, 0, none⟩) n o2) n pl, rwI (.slice (some ⟨a11, 0, none⟩) n b11) n na, rwI (.slice (some ⟨a21, 0, none⟩) n b21) n ba, rwI (.slice (some ⟨a31, 0, none⟩) n b31) n ta] [(gx, Obj.cells #[.int .i64 wd, .slice (some ⟨a11, 0, none⟩) n b11, .int .i64 wd, .slice (some ⟨a21, 0, none⟩) n b21, .int .i64 hi, .slice (some ⟨a31, 0, none⟩) n b31] 24 (0, 0)), (p1, Obj.cells #[.int .i64 wd, .slice (some ⟨a11, 0, none⟩) n b11] 24 (0, 0)), (p2, Obj.cells #[.int .i64 wd, .slice (some ⟨a21, 0, none⟩) n b21] 24 (0, 0)), (p3, Obj.cells #[.int .i64 hi, .slice (some ⟨a31, 0, none⟩) n b31] 24 (0, 0)), (q, Obj.cells #[.int .i64 wd, .slice (some ⟨g1, 0, none⟩) n k1] 24 (0, 0))] (w14.alloc (.cells #[.int .i64 wd, .slice (some ⟨a11, 0, none⟩) n b11, .int .i64 wd, .slice (some ⟨a21, 0, none⟩) n b21, .int .i64 hi, .slice (some ⟨a31, 0, none⟩) n b31] 24))) := by rw [hgx]; exact HM15
          generalize w14.alloc (.cells #[.int .i64 wd, .slice (some ⟨a11, 0, none⟩) n b11, .int .i64 wd, .slice (some ⟨a21, 0, none⟩) n b21, .int .i64 hi, .slice (some ⟨a31, 0, none⟩) n b31] 24) = w15 at HM16 ⊢
          clear HM15 hgx b0 b1 b2 b3 b4 b5
          have HC : Hid (∀ W, Below w15.heap.size w15 W → (∀ p, p < n → W.cell? ⟨gl, p, none⟩ = some (.int .i64 (r p : Nat)) ∧ W.cell? ⟨m1, p, none⟩ = some (.int .i64 (mirror wd p : Nat)) ∧ W.cell? ⟨m2, p, none⟩ = some (.int .i64 (place wd hi p : Nat))) ∧ (∀ i, i < k → W.cell? ⟨gd, i, none⟩ = some (.int .i64 (inCount ⟨wd, os⟩ r i k : Nat))) ∧ RS W.heap.size W (.slice pa P.length pc) P.length (ints P)) := Lib.hid fun W hW => by
            have H := HM16.out.grow hW
            refine ⟨fun p hp => ⟨?_, ?_, ?_⟩, fun i hi => ?_, H.rsI (v := .slice pa P.length pc) (n := P.length) (.inl (.head _)) rfl⟩
            · have h := H.cellI (g := gl) (n := n) (cap := kl) (l := regL r n) (j := p) (.inl (.tail _ (.tail _ (.head _)))) (by rw [regL_length]; exact hp)
              rw [h, show (regL r n).getD p 0 = r p from getD_mapR (fun p => (r p : Int)) hp]
            · have h := H.cellI (g := m1) (n := n) (cap := o1) (l := mi) (j := p) (.inr (.head _)) (by rw [HL5.out.1]; exact hp)
              rw [h, HMP.out.1 p hp]
            · have h := H.cellI (g := m2) (n := n) (cap := o2) (l := pl) (j := p) (.inr (.tail _ (.head _))) (by rw [HL5.out.2.1]; exact hp)
              rw [h, HMP.out.2 p hp]
            · have h := H.cellI (g := gd) (n := k) (cap := kd) (l := depL ⟨wd, os⟩ r k) (j := i) (.inl (.tail _ (.head _))) (by simp [depL]; exact hi)
              rw [h, show (depL ⟨wd, os⟩ r k).getD i 0 = inCount ⟨wd, os⟩ r i k from getD_mapR (fun i => (inCount ⟨wd, os⟩ r i k : Int)) hi]
          have HXA : Hid (∀ j, j < 3 → ∃ (xw gj kj : Nat) (xs : List Int) (s t' : Nat → Nat), SameM ⟨wd, os⟩ xw xs s t' ∧ RS w15.heap.size w15 (.slice (some ⟨gj, 0, none⟩) n kj) xs.length (ints xs) ∧ (w15.cell? ⟨gx, j * 2, none⟩ = some (.int .i64 xw) ∧ w15.cell? ⟨gx, j * 2 + 1, none⟩ = some (.slice (some ⟨gj, 0, none⟩) n kj)) ∧ (j = 1 → s = mirror wd) ∧ (j = 2 → s = place wd hi) ∧ (j ≠ 1 → j ≠ 2 → s = fun p => p)) := Lib.hid fun j hj => by
            have hx := (HM16.out.x (gx, Obj.cells #[.int .i64 wd, .slice (some ⟨a11, 0, none⟩) n b11, .int .i64 wd, .slice (some ⟨a21, 0, none⟩) n b21, .int .i64 hi, .slice (some ⟨a31, 0, none⟩) n b31] 24 (0, 0)) (List.mem_cons_self)).2
            have cel : ∀ i v, (#[.int .i64 wd, .slice (some ⟨a11, 0, none⟩) n b11, .int .i64 wd, .slice (some ⟨a21, 0, none⟩) n b21, .int .i64 hi, .slice (some ⟨a31, 0, none⟩) n b31] : Array Value)[i]? = some v → w15.cell? ⟨gx, i, none⟩ = some v := fun i v h => by simp only [World.cell?, hx]; exact h
            rcases (show j = 0 ∨ j = 1 ∨ j = 2 by omega) with rfl | rfl | rfl
            · exact ⟨wd, a11, b11, na, fun p => p, fun p => p, HSM.out.1, HM16.out.rsI (n := n) (.inr (.tail _ (.tail _ (.head _)))) HL5.out.2.2.1, ⟨cel 0 _ rfl, cel 1 _ rfl⟩, (fun h => by cases h), (fun h => by cases h), fun _ _ => rfl⟩
            · exact ⟨wd, a21, b21, ba, mirror wd, mirror wd, HSM.out.2.1, HM16.out.rsI (n := n) (.inr (.tail _ (.tail _ (.tail _ (.head _))))) HL5.out.2.2.2.1, ⟨cel 2 _ rfl, cel 3 _ rfl⟩, (fun _ => rfl), (fun h => by cases h), fun h => absurd rfl h⟩
            · exact ⟨hi, a31, b31, ta, place wd hi, place hi wd, HSM.out.2.2, HM16.out.rsI (n := n) (.inr (.tail _ (.tail _ (.tail _ (.tail _ (.head _)))))) HL5.out.2.2.2.2, ⟨cel 4 _ rfl, cel 5 _ rfl⟩, (fun h => by cases h), (fun _ => rfl), fun _ h => absurd rfl h⟩
          have HBW := Lib.hid HM16.out.b
          clear HM16 HSM HMP HL5
          go_loopw [163] (fun iv W => ∃ j : Nat, j ≤ 3 ∧ iv = .int .i64 j ∧ Hid (Below w15.heap.size w15 W)) (fun iv _ => 3 - (intOf iv).toNat)
          case atStart => exact ⟨0, Nat.zero_le _, rfl, Lib.hid (Below.refl _ _)⟩
          case round =>
            obtain ⟨j, hj, rfl, hJ⟩ := hrel
            by_cases hj3 : j < 3
            · have hj64 : (j : Int) < 3 := by omega
              obtain ⟨xw, gj, kj, xs, s, t', hS, hRS, ⟨d1, d2⟩, ha1, ha2, ha0⟩ := HXA.out j hj3
              have HS := Lib.hid hS
              have HAT := Lib.hid (And.intro ha1 (And.intro ha2 ha0))
              have HXN : Hid (xs.length = n) := Lib.hid (by rw [hS.len]; exact HOS.out)
              have HXR := Lib.hid (RS.on hRS hJ.out)
              have d3 := hJ.out.on d1
              have d4 := hJ.out.on d2
              clear hS hRS d1 d2 ha1 ha2 ha0
              go_upto_region 22 with (fail)
              clear d3 d4
              have hb0 : Below wr.heap.size wr (wr.alloc (.cells #[.int .i64 xw, .slice (some ⟨gj, 0, none⟩) n kj] 24)) := (Below.refl _ _).alloc (Nat.le_refl _) _
              have b0 : (wr.alloc (.cells #[.int .i64 xw, .slice (some ⟨gj, 0, none⟩) n kj] 24)).cell? ⟨wr.heap.size, 0, none⟩ = some (.int .i64 xw) := by simp [go_sem]
              have b1 : (wr.alloc (.cells #[.int .i64 xw, .slice (some ⟨gj, 0, none⟩) n kj] 24)).cell? ⟨wr.heap.size, 1, none⟩ = some (.slice (some ⟨gj, 0, none⟩) n kj) := by simp [go_sem]
              generalize wr.alloc (.cells #[.int .i64 xw, .slice (some ⟨gj, 0, none⟩) n kj] 24) = w16 at hb0 b0 b1 ⊢
              obtain ⟨q9, hq9⟩ : ∃ q, q = wr.heap.size := ⟨_, rfl⟩
              rw [← hq9] at b0 b1 ⊢
              replace HXR := Lib.hid (RS.on HXR.out hb0)
              have HB16 : Hid (Below w15.heap.size w15 w16) := Lib.hid (hJ.out.trans (hb0.mono hJ.out.size))
              clear hb0 hq9 hJ
              rw [HXN.out] at HXR
              have CR := Lib.hid (Regions_any (wd := xw) (B := w16.heap.size) (os := xs) (w := w16) (by rw [HXN.out]; omega) (Nat.le_refl _) (by rw [HXN.out]; exact HXR.out))
              go_wp2_with fail
              refine CR.out.mono ?_
              rintro e w17 ⟨hb, ⟨-, vl, r', k', rfl, hr, hk, ho⟩ | ⟨hx, -⟩⟩
              case inr => exact absurd HS.out.er hx
              rw [Int.toNat_natCast] at hr hk
              rw [HXN.out] at ho
              obtain ⟨gr, kr, rfl⟩ : ∃ g cap, vl = .slice (some ⟨g, 0, none⟩) n cap := form_pos (r := rwI vl n (regL r' n)) ho (show 0 < n by omega)
              have hkk : k' = k := by
                have h1 := HS.out.iso.many HR.out.1 hr HR.out.2 hk
                have h2 := HS.out.iso.symm.many hr HR.out.1 hk HR.out.2
                omega
              subst hkk
              have HR2 : Hid (IsReg ⟨xw, xs⟩ r' ∧ IsMany ⟨xw, xs⟩ r' k') := Lib.hid ⟨hr, hk⟩
              have HRR := Lib.hid (RS.of_owns ho)
              replace HXR := Lib.hid (RS.on HXR.out hb)
              have HB17 : Hid (Below w15.heap.size w15 w17) := Lib.hid (HB16.out.trans (hb.mono HB16.out.size))
              replace b0 := hb.on b0
              replace b1 := hb.on b1
              clear hb hr hk ho CR HB16
              have CD := Lib.hid (Depths_any (wd := xw) (B := w17.heap.size) (os := xs) (w := w17) (by rw [HXN.out]; omega) (Nat.le_refl _) (by rw [HXN.out]; exact HXR.out))
              go_wp2_with fail
              refine CD.out.mono ?_
              rintro e w18 ⟨hb, ⟨-, vd, r2, k2, rfl, hr, hk, ho⟩ | ⟨hx, -⟩⟩
              case inr => exact absurd HS.out.er hx
              rw [Int.toNat_natCast] at hr hk ho
              obtain ⟨hrr, rfl⟩ := reg_same HR2.out.1 hr HR2.out.2 hk
              have hdd : depL ⟨xw, xs⟩ r2 k' = depL ⟨xw, xs⟩ r' k' := List.map_congr_left (fun i _ => by rw [inCount_congr hrr])
              rw [hdd] at ho
              obtain ⟨gt, kt, rfl⟩ : ∃ g cap, vd = .slice (some ⟨g, 0, none⟩) k' cap := form_pos (r := rwI vd k' (depL ⟨xw, xs⟩ r' k')) ho (show 0 < k' by omega)
              have HRT := Lib.hid (RS.of_owns ho)
              replace HXR := Lib.hid (RS.on HXR.out hb)
              replace HRR := Lib.hid (RS.on HRR.out hb)
              have HB18 : Hid (Below w15.heap.size w15 w18) := Lib.hid (HB17.out.trans (hb.mono HB17.out.size))
              replace b0 := hb.on b0
              replace b1 := hb.on b1
              clear hb hr hk ho CD HB17 hrr hdd
              have CC := Lib.hid (Clear_any (wd := xw) (B := w18.heap.size) (os := xs) (w := w18) (by rw [HXN.out]; omega) (Nat.le_refl _) (by rw [HXN.out]; exact HXR.out))
              go_wp2_with fail
              refine CC.out.mono ?_
              rintro e w19 ⟨hb, ⟨hx, -⟩ | ⟨-, rc2, kc2, T2, O2, vc, pv, hrc, hkc, hT2, hO, rfl, ho, hp⟩⟩
              case inl => exact absurd HS.out.er hx
              rw [Int.toNat_natCast] at hrc hkc hT2 hO
              have hPP := HS.out.iso.plots HMO.out HS.out.ok HCL.out.1 hrc HCL.out.2.1 hkc HCL.out.2.2.1 HCL.out.2.2.2 hT2 hO
              have HGI : Hid (∀ p, p < n → (O p ≠ os.getD p 0 ↔ O2 (s p) ≠ xs.getD (s p) 0)) := Lib.hid fun p hp => HS.out.iso.givs HMO.out HS.out.ok HCL.out.1 hrc HCL.out.2.1 hkc HCL.out.2.2.1 HCL.out.2.2.2 hT2 hO (by show p < os.length; rw [HOS.out]; exact hp)
              obtain ⟨P2, hP2⟩ : ∃ P : List Int, P = (plotL O2 (fun p => xs.getD p 0) xs.length).map Int.ofNat := ⟨_, rfl⟩
              have hl2 : (plotL O2 (fun p => xs.getD p 0) xs.length).length = P.length := by
                rw [HP.out, List.length_map]; exact hPP
              have hl3 : P2.length = P.length := by rw [hP2, List.length_map, hl2]
              have hp2 : w19.ownsRow w18.heap.size 3 1 pv P.length (ints P2) := by
                rw [hl2] at hp
                rw [hP2]; exact hp
              rw [HXN.out] at ho
              obtain ⟨gv2, kv2, rfl⟩ : ∃ g cap, vc = .slice (some ⟨g, 0, none⟩) n cap := form_pos (r := rwI vc n ((List.range n).map O2)) ho (show 0 < n by omega)
              obtain ⟨pb, pd, rfl, -⟩ := RS.of_owns hp2
              have HRP := Lib.hid (RS.of_owns hp2)
              replace HRR := Lib.hid (RS.on HRR.out hb)
              replace HRT := Lib.hid (RS.on HRT.out hb)
              have HB19 : Hid (Below w15.heap.size w15 w19) := Lib.hid (HB18.out.trans (hb.mono HB18.out.size))
              have HP2 := Lib.hid hP2
              have HL3 := Lib.hid hl3
              clear hb hrc hkc hT2 hO ho hp hp2 hP2 hl2 hl3 hPP CC HB18 b0 b1 HXR
              go_upto_region 25 with (fail)
              have hb0 : Below w19.heap.size w19 (w19.alloc (.cells #[.int .i64 xw, .slice (some ⟨gv2, 0, none⟩) n kv2] 24)) := (Below.refl _ _).alloc (Nat.le_refl _) _
              generalize w19.alloc (.cells #[.int .i64 xw, .slice (some ⟨gv2, 0, none⟩) n kv2] 24) = w20 at hb0 ⊢
              replace HRR := Lib.hid (RS.on HRR.out hb0)
              replace HRT := Lib.hid (RS.on HRT.out hb0)
              replace HRP := Lib.hid (RS.on HRP.out hb0)
              have HB20 : Hid (Below w15.heap.size w15 w20) := Lib.hid (HB19.out.trans (hb0.mono HB19.out.size))
              clear hb0 HB19
              have HC2 : Hid (∀ W, Below w20.heap.size w20 W → (∀ p, p < n → W.cell? ⟨gr, p, none⟩ = some (.int .i64 (r' p : Nat))) ∧ (∀ i, i < k' → W.cell? ⟨gt, i, none⟩ = some (.int .i64 (inCount ⟨xw, xs⟩ r' i k' : Nat))) ∧ RS W.heap.size W (.slice pb P.length pd) P2.length (ints P2)) := Lib.hid fun W hW => by
                refine ⟨fun p hp => ?_, fun i hi => ?_, by rw [HL3.out]; exact RS.on HRP.out hW⟩
                · have h := rs_cell (p := p) (RS.on HRR.out hW) (by rw [regL_length]; exact hp)
                  rw [h, show (regL r' n).getD p 0 = r' p from getD_mapR (fun p => (r' p : Int)) hp]
                · have h := rs_cell (p := i) (RS.on HRT.out hW) (by simp [depL]; exact hi)
                  rw [h, show (depL ⟨xw, xs⟩ r' k').getD i 0 = inCount ⟨xw, xs⟩ r' i k' from getD_mapR (fun i => (inCount ⟨xw, xs⟩ r' i k' : Int)) hi]
              clear HRR HRT HRP
              go_wp2_with fail
              go_loopw [217] (fun iv W => ∃ p : Nat, p ≤ n ∧ iv = .int .i64 p ∧ Hid (Below w20.heap.size w20 W)) (fun iv _ => n - (intOf iv).toNat)
              case atStart => exact ⟨0, Nat.zero_le _, rfl, Lib.hid (Below.refl _ _)⟩
              case round =>
                obtain ⟨p, hp, rfl, hI⟩ := hrel
                by_cases hlt : p < n
                · have hp64 : (p : Int) < (n : Int) := by omega
                  have hpo : p < os.length := by rw [HOS.out]; exact hlt
                  have h15 := HB20.out.trans (hI.out.mono HB20.out.size)
                  obtain ⟨ap, hap⟩ : ∃ a, a = s p := ⟨_, rfl⟩
                  have hapn : ap < n := by rw [hap, ← HOS.out]; exact HS.out.iso.to p hpo
                  obtain ⟨x1, x2, x3⟩ := (HC.out _ h15).1 p hlt
                  have HAP := Lib.hid hap
                  have hI0 := hI
                  clear x1
                  go_upto_if 222 with (fail)
                  go_cut [31] from 222 to 232 (fun s31 wc => s31 = .int .i64 (ap : Nat) ∧ Hid (Below w20.heap.size w20 wc))
                  case first =>
                    by_cases e1 : j = 1
                    · have g1 : ((j : Int) == 1) = true := by simp; omega
                      have hap2 : mirror wd p = ap := by rw [HAP.out, HAT.out.1 e1]
                      rw [hap2] at x2
                      clear e1 hap2 x3 hap
                      go_wp2
                      go_meet
                      case rel => exact ⟨rfl, hI0⟩
                    · have g1 : ((j : Int) == 1) = false := by rw [beq_eq_false_iff_ne]; omega
                      by_cases e2 : j = 2
                      · have g2 : ((j : Int) == 2) = true := by simp; omega
                        have hap2 : place wd hi p = ap := by rw [HAP.out, HAT.out.2.1 e2]
                        rw [hap2] at x3
                        clear e1 e2 hap2 x2 hap
                        go_wp2
                        go_meet
                        case rel => exact ⟨rfl, hI0⟩
                      · have g2 : ((j : Int) == 2) = false := by rw [beq_eq_false_iff_ne]; omega
                        have hap2 : p = ap := by rw [HAP.out, HAT.out.2.2 e1 e2]
                        have HQ := Lib.hid hap2
                        clear e1 e2 hap2 x2 x3 hap
                        go_wp2
                        go_meet
                        case rel => exact ⟨by rw [← HQ.out], hI0⟩
                  case rest =>
                    obtain ⟨rfl, hW⟩ := hcut
                    clear x2 x3 hap hI hI0 h15
                    have hW' := Lib.hid hW.out.drew
                    have h15 := HB20.out.trans (hW'.out.mono HB20.out.size)
                    obtain ⟨y1, y2, hP1⟩ := HC.out _ h15
                    obtain ⟨y3, y4, hP2'⟩ := HC2.out _ hW'.out
                    obtain ⟨lp, hlp⟩ : ∃ a, a = r p := ⟨_, rfl⟩
                    obtain ⟨rp, hrp⟩ : ∃ a, a = r' ap := ⟨_, rfl⟩
                    have hlpk : lp < k' := by rw [hlp]; exact HR.out.2.lt p hpo
                    have hapx : ap < xs.length := by rw [HXN.out]; exact hapn
                    have hrpk : rp < k' := by rw [hrp]; exact HR2.out.2.lt ap hapx
                    obtain ⟨dd, hdd⟩ : ∃ d, d = inCount ⟨wd, os⟩ r lp k' := ⟨_, rfl⟩
                    have hd2 : inCount ⟨xw, xs⟩ r' rp k' = dd := by
                      rw [hdd, hlp, hrp, HAP.out]
                      exact (HS.out.iso.depth HR.out.1 HR2.out.1 HR.out.2 HR2.out.2 hpo).symm
                    have v1 := (y1 p hlt).1
                    have v2 := y2 lp hlpk
                    have v3 := y3 ap hapn
                    have v4 := y4 rp hrpk
                    rw [← hlp] at v1
                    rw [← hdd] at v2
                    rw [← hrp] at v3
                    rw [hd2] at v4
                    obtain ⟨bb, hbb⟩ : ∃ bb, bb = decide ((p : Int) ∈ P) := ⟨_, rfl⟩
                    have hmem : decide ((ap : Int) ∈ P2) = bb := by
                      rw [hbb]
                      apply decide_eq_decide.2
                      rw [HP.out, HP2.out]
                      have of : ∀ (l : List Nat) (x : Nat), (x : Int) ∈ l.map Int.ofNat ↔ x ∈ l := fun l x => by
                        constructor
                        · intro h
                          obtain ⟨y, hy, e⟩ := List.mem_map.1 h
                          have : y = x := Int.ofNat.inj e
                          rw [← this]; exact hy
                        · intro h; exact List.mem_map.2 ⟨x, h, rfl⟩
                      rw [of, of, mem_plotL, mem_plotL]
                      have h1 := HGI.out p hlt
                      rw [← HAP.out] at h1
                      exact ⟨fun h => ⟨hpo, h1.2 h.2⟩, fun h => ⟨hapx, h1.1 h.2⟩⟩
                    have HK1 : Hid (Calls Try.prog 35 #[.slice pa P.length pc, .int .i64 (p : Nat)] wc.drew fun e w' => e = .returned (.bool bb) ∧ wc.drew = w') := Lib.hid (by rw [hbb]; exact contains_any (p : Int) (by omega) hP1)
                    have HK2 : Hid (Calls Try.prog 35 #[.slice pb P.length pd, .int .i64 (ap : Nat)] wc.drew fun e w' => e = .returned (.bool bb) ∧ wc.drew = w') := Lib.hid (by rw [← hmem]; have h := contains_any (ap : Int) (by rw [HL3.out]; omega) hP2'; exact h)
                    have hC35 : (fun W => W.cell? ⟨gl, p, none⟩ = some (.int .i64 lp) ∧ W.cell? ⟨gd, lp, none⟩ = some (.int .i64 dd) ∧ W.cell? ⟨gr, ap, none⟩ = some (.int .i64 rp) ∧ W.cell? ⟨gt, rp, none⟩ = some (.int .i64 dd)) wc.drew := ⟨v1, v2, v3, v4⟩
                    have hap64 : (ap : Int) < (n : Int) := by omega
                    have hlp64 : (lp : Int) < (k' : Int) := by omega
                    have hrp64 : (rp : Int) < (k' : Int) := by omega
                    have g5 : decide ((rp : Int) < 0) = false := by simp
                    have g6 : decide ((k' : Int) ≤ (rp : Int)) = false := by simp; omega
                    have g8 : decide (k' ≤ rp) = false := by simp; omega
                    have g7 : decide ((lp : Int) < 0) = false := by simp
                    clear hlp hrp hdd hd2 hbb hmem y1 y2 y3 y4 hP1 hP2' v1 v2 v3 v4 h15
                    go_upto_region 35 with (fail)
                    refine Lim.regC' (fun W => W.cell? ⟨gl, p, none⟩ = some (.int .i64 lp) ∧ W.cell? ⟨gd, lp, none⟩ = some (.int .i64 dd) ∧ W.cell? ⟨gr, ap, none⟩ = some (.int .i64 rp) ∧ W.cell? ⟨gt, rp, none⟩ = some (.int .i64 dd)) [] #[false, false, false, false, false, false, false, false, false, false, false, false, false, false, false, false, false, false, false, false, false, false, false, false, false, false, false, false, false, false, false, false, false, false, false, false, false, false, false, false, false, false, false, false, false, false, false] (by kernel_rfl) rfl ?_
                    refine Lim.stepR 0 (fun _ => trivial) rfl (by kernel_rfl) (fun _ _ _ _ h => h) hC35 rfl ?_; apply Exists.intro; refine ⟨?_, ?_⟩
                    · rintro w ⟨r1, r2, r3, r4⟩; go_simp; try with_reducible rfl
                    simp only [Act.put, List.setIfInBounds_toArray, List.set_cons_succ, List.set_cons_zero]
                    refine Lim.stepR 1 (fun _ => trivial) rfl (by kernel_rfl) (fun _ _ _ _ h => h) hC35 rfl ?_; apply Exists.intro; refine ⟨?_, ?_⟩
                    · rintro w ⟨r1, r2, r3, r4⟩; go_simp; try with_reducible rfl
                    simp only [Act.put, List.setIfInBounds_toArray, List.set_cons_succ, List.set_cons_zero]
                    refine Lim.stepR 2 (fun _ => trivial) rfl (by kernel_rfl) (fun _ _ _ _ h => h) hC35 rfl ?_; apply Exists.intro; refine ⟨?_, ?_⟩
                    · rintro w ⟨r1, r2, r3, r4⟩; go_simp; try with_reducible rfl
                    simp only [Act.put, List.setIfInBounds_toArray, List.set_cons_succ, List.set_cons_zero]
                    refine Lim.stepR 3 (fun _ => trivial) rfl (by kernel_rfl) (fun _ _ _ _ h => h) hC35 rfl ?_; apply Exists.intro; refine ⟨?_, ?_⟩
                    · rintro w ⟨r1, r2, r3, r4⟩; go_simp; try with_reducible rfl
                    simp only [Act.put, List.setIfInBounds_toArray, List.set_cons_succ, List.set_cons_zero]
                    refine Lim.stepR 4 (fun _ => trivial) rfl (by kernel_rfl) (fun _ _ _ _ h => h) hC35 rfl ?_; apply Exists.intro; refine ⟨?_, ?_⟩
                    · rintro w ⟨r1, r2, r3, r4⟩; go_simp; try with_reducible rfl
                    simp only [Act.put, List.setIfInBounds_toArray, List.set_cons_succ, List.set_cons_zero]
                    refine Lim.stepR 5 (fun _ => trivial) rfl (by kernel_rfl) (fun _ _ _ _ h => h) hC35 rfl ?_; apply Exists.intro; refine ⟨?_, ?_⟩
                    · rintro w ⟨r1, r2, r3, r4⟩; go_simp; try with_reducible rfl
                    simp only [Act.put, List.setIfInBounds_toArray, List.set_cons_succ, List.set_cons_zero]
                    refine Lim.stepR 6 (fun _ => trivial) rfl (by kernel_rfl) (fun _ _ _ _ h => h) hC35 rfl ?_; apply Exists.intro; refine ⟨?_, ?_⟩
                    · rintro w ⟨r1, r2, r3, r4⟩; go_simp; try with_reducible rfl
                    simp only [Act.put, List.setIfInBounds_toArray, List.set_cons_succ, List.set_cons_zero]
                    refine Lim.stepR 7 (fun _ => trivial) rfl (by kernel_rfl) (fun _ _ _ _ h => h) hC35 rfl ?_; apply Exists.intro; refine ⟨?_, ?_⟩
                    · rintro w ⟨r1, r2, r3, r4⟩; go_simp; try with_reducible rfl
                    simp only [Act.put, List.setIfInBounds_toArray, List.set_cons_succ, List.set_cons_zero]
                    refine Lim.stepR 8 (fun _ => trivial) rfl (by kernel_rfl) (fun _ _ _ _ h => h) hC35 rfl ?_; apply Exists.intro; refine ⟨?_, ?_⟩
                    · rintro w ⟨r1, r2, r3, r4⟩; go_simp; try with_reducible rfl
                    simp only [Act.put, List.setIfInBounds_toArray, List.set_cons_succ, List.set_cons_zero]
                    refine Lim.stepR 9 (fun _ => trivial) rfl (by kernel_rfl) (fun _ _ _ _ h => h) hC35 rfl ?_; apply Exists.intro; refine ⟨?_, ?_⟩
                    · rintro w ⟨r1, r2, r3, r4⟩; go_simp; try with_reducible rfl
                    simp only [Act.put, List.setIfInBounds_toArray, List.set_cons_succ, List.set_cons_zero]
                    refine Lim.stepR 10 (fun _ => trivial) rfl (by kernel_rfl) (fun _ _ _ _ h => h) hC35 rfl ?_; apply Exists.intro; refine ⟨?_, ?_⟩
                    · rintro w ⟨r1, r2, r3, r4⟩; go_simp; try with_reducible rfl
                    simp only [Act.put, List.setIfInBounds_toArray, List.set_cons_succ, List.set_cons_zero]
                    refine Lim.stepR 11 (fun _ => trivial) rfl (by kernel_rfl) (fun _ _ _ _ h => h) hC35 rfl ?_; apply Exists.intro; refine ⟨?_, ?_⟩
                    · rintro w ⟨r1, r2, r3, r4⟩; go_simp; try with_reducible rfl
                    simp only [Act.put, List.setIfInBounds_toArray, List.set_cons_succ, List.set_cons_zero]
                    refine Lim.stepR 12 (fun _ => trivial) rfl (by kernel_rfl) (fun _ _ _ _ h => h) hC35 rfl ?_; apply Exists.intro; refine ⟨?_, ?_⟩
                    · rintro w ⟨r1, r2, r3, r4⟩; go_simp; try with_reducible rfl
                    simp only [Act.put, List.setIfInBounds_toArray, List.set_cons_succ, List.set_cons_zero]
                    refine Lim.stepR 13 (fun _ => trivial) rfl (by kernel_rfl) (fun _ _ _ _ h => h) hC35 rfl ?_; apply Exists.intro; refine ⟨?_, ?_⟩
                    · rintro w ⟨r1, r2, r3, r4⟩; go_simp; try with_reducible rfl
                    simp only [Act.put, List.setIfInBounds_toArray, List.set_cons_succ, List.set_cons_zero]
                    refine Lim.stepR 14 (fun _ => trivial) rfl (by kernel_rfl) (fun _ _ _ _ h => h) hC35 rfl ?_; apply Exists.intro; refine ⟨?_, ?_⟩
                    · rintro w ⟨r1, r2, r3, r4⟩; go_simp; try with_reducible rfl
                    simp only [Act.put, List.setIfInBounds_toArray, List.set_cons_succ, List.set_cons_zero]
                    refine Lim.stepR 15 (fun _ => trivial) rfl (by kernel_rfl) (fun _ _ _ _ h => h) hC35 rfl ?_; apply Exists.intro; refine ⟨?_, ?_⟩
                    · rintro w ⟨r1, r2, r3, r4⟩; go_simp; try with_reducible rfl
                    simp only [Act.put, List.setIfInBounds_toArray, List.set_cons_succ, List.set_cons_zero]
                    refine Lim.stepR 16 (fun _ => trivial) rfl (by kernel_rfl) (fun _ _ _ _ h => h) hC35 rfl ?_; apply Exists.intro; refine ⟨?_, ?_⟩
                    · rintro w ⟨r1, r2, r3, r4⟩; go_simp; try with_reducible rfl
                    simp only [Act.put, List.setIfInBounds_toArray, List.set_cons_succ, List.set_cons_zero]
                    refine Lim.stepR 17 (fun _ => trivial) rfl (by kernel_rfl) (fun _ _ _ _ h => h) hC35 rfl ?_; apply Exists.intro; refine ⟨?_, ?_⟩
                    · rintro w ⟨r1, r2, r3, r4⟩; go_simp; try with_reducible rfl
                    simp only [Act.put, List.setIfInBounds_toArray, List.set_cons_succ, List.set_cons_zero]
                    refine Lim.stepR 18 (fun _ => trivial) rfl (by kernel_rfl) (fun _ _ _ _ h => h) hC35 rfl ?_; apply Exists.intro; refine ⟨?_, ?_⟩
                    · rintro w ⟨r1, r2, r3, r4⟩; go_simp; try with_reducible rfl
                    simp only [Act.put, List.setIfInBounds_toArray, List.set_cons_succ, List.set_cons_zero]
                    refine Lim.stepR 19 (fun _ => trivial) rfl (by kernel_rfl) (fun _ _ _ _ h => h) hC35 rfl ?_; apply Exists.intro; refine ⟨?_, ?_⟩
                    · rintro w ⟨r1, r2, r3, r4⟩; go_simp; try with_reducible rfl
                    simp only [Act.put, List.setIfInBounds_toArray, List.set_cons_succ, List.set_cons_zero]
                    refine Lim.stepR 20 (fun _ => trivial) rfl (by kernel_rfl) (fun _ _ _ _ h => h) hC35 rfl ?_; apply Exists.intro; refine ⟨?_, ?_⟩
                    · rintro w ⟨r1, r2, r3, r4⟩; go_simp; try with_reducible rfl
                    simp only [Act.put, List.setIfInBounds_toArray, List.set_cons_succ, List.set_cons_zero]
                    refine Lim.stepR 21 (fun _ => trivial) rfl (by kernel_rfl) (fun _ _ _ _ h => h) hC35 rfl ?_; apply Exists.intro; refine ⟨?_, ?_⟩
                    · rintro w ⟨r1, r2, r3, r4⟩; go_simp; try with_reducible rfl
                    simp only [Act.put, List.setIfInBounds_toArray, List.set_cons_succ, List.set_cons_zero]
                    refine Lim.stepR 22 (fun _ => trivial) rfl (by kernel_rfl) (fun _ _ _ _ h => h) hC35 rfl ?_; apply Exists.intro; refine ⟨?_, ?_⟩
                    · rintro w ⟨r1, r2, r3, r4⟩; go_simp; try with_reducible rfl
                    simp only [Act.put, List.setIfInBounds_toArray, List.set_cons_succ, List.set_cons_zero]
                    refine Lim.stepR 23 (fun _ => trivial) rfl (by kernel_rfl) (fun _ _ _ _ h => h) hC35 rfl ?_; apply Exists.intro; refine ⟨?_, ?_⟩
                    · rintro w ⟨r1, r2, r3, r4⟩; go_simp; try with_reducible rfl
                    simp only [Act.put, List.setIfInBounds_toArray, List.set_cons_succ, List.set_cons_zero]
                    refine Lim.stepR 24 (fun _ => trivial) rfl (by kernel_rfl) (fun _ _ _ _ h => h) hC35 rfl ?_; apply Exists.intro; refine ⟨?_, ?_⟩
                    · rintro w ⟨r1, r2, r3, r4⟩; go_simp; try with_reducible rfl
                    simp only [Act.put, List.setIfInBounds_toArray, List.set_cons_succ, List.set_cons_zero]
                    refine Lim.stepR 25 (fun _ => trivial) rfl (by kernel_rfl) (fun _ _ _ _ h => h) hC35 rfl ?_; apply Exists.intro; refine ⟨?_, ?_⟩
                    · rintro w ⟨r1, r2, r3, r4⟩; go_simp; try with_reducible rfl
                    simp only [Act.put, List.setIfInBounds_toArray, List.set_cons_succ, List.set_cons_zero]
                    refine Lim.stepR 26 (fun _ => trivial) rfl (by kernel_rfl) (fun _ _ _ _ h => h) hC35 rfl ?_; apply Exists.intro; refine ⟨?_, ?_⟩
                    · rintro w ⟨r1, r2, r3, r4⟩; go_simp; try with_reducible rfl
                    simp only [Act.put, List.setIfInBounds_toArray, List.set_cons_succ, List.set_cons_zero]
                    refine Lim.stepR 27 (fun _ => trivial) rfl (by kernel_rfl) (fun _ _ _ _ h => h) hC35 rfl ?_; apply Exists.intro; refine ⟨?_, ?_⟩
                    · rintro w ⟨r1, r2, r3, r4⟩; go_simp; try with_reducible rfl
                    simp only [Act.put, List.setIfInBounds_toArray, List.set_cons_succ, List.set_cons_zero]
                    refine Lim.stepR 28 (fun _ => trivial) rfl (by kernel_rfl) (fun _ _ _ _ h => h) hC35 rfl ?_; apply Exists.intro; refine ⟨?_, ?_⟩
                    · rintro w ⟨r1, r2, r3, r4⟩; go_simp; try with_reducible rfl
                    simp only [Act.put, List.setIfInBounds_toArray, List.set_cons_succ, List.set_cons_zero]
                    refine Lim.stepR 29 (fun _ => trivial) rfl (by kernel_rfl) (fun _ _ _ _ h => h) hC35 rfl ?_; apply Exists.intro; refine ⟨?_, ?_⟩
                    · rintro w ⟨r1, r2, r3, r4⟩; go_simp; try with_reducible rfl
                    simp only [Act.put, List.setIfInBounds_toArray, List.set_cons_succ, List.set_cons_zero]
                    refine Lim.stepR 30 (fun _ => trivial) rfl (by kernel_rfl) (fun _ _ _ _ h => h) hC35 rfl ?_; apply Exists.intro; refine ⟨?_, ?_⟩
                    · rintro w ⟨r1, r2, r3, r4⟩; go_simp; try with_reducible rfl
                    simp only [Act.put, List.setIfInBounds_toArray, List.set_cons_succ, List.set_cons_zero]
                    refine Lim.stepR 31 (fun _ => trivial) rfl (by kernel_rfl) (fun _ _ _ _ h => h) hC35 rfl ?_; apply Exists.intro; refine ⟨?_, ?_⟩
                    · rintro w ⟨r1, r2, r3, r4⟩; go_simp; try with_reducible rfl
                    simp only [Act.put, List.setIfInBounds_toArray, List.set_cons_succ, List.set_cons_zero]
                    refine Lim.stepR 32 (fun _ => trivial) rfl (by kernel_rfl) (fun _ _ _ _ h => h) hC35 rfl ?_; apply Exists.intro; refine ⟨?_, ?_⟩
                    · rintro w ⟨r1, r2, r3, r4⟩; go_simp; try with_reducible rfl
                    simp only [Act.put, List.setIfInBounds_toArray, List.set_cons_succ, List.set_cons_zero]
                    refine Lim.stepR 33 (fun _ => trivial) rfl (by kernel_rfl) (fun _ _ _ _ h => h) hC35 rfl ?_; apply Exists.intro; refine ⟨?_, ?_⟩
                    · rintro w ⟨r1, r2, r3, r4⟩; go_simp; try with_reducible rfl
                    simp only [Act.put, List.setIfInBounds_toArray, List.set_cons_succ, List.set_cons_zero]
                    refine Lim.stepR 34 (fun _ => trivial) rfl (by kernel_rfl) (fun _ _ _ _ h => h) hC35 rfl ?_; apply Exists.intro; refine ⟨?_, ?_⟩
                    · rintro w ⟨r1, r2, r3, r4⟩; go_simp; try with_reducible rfl
                    simp only [Act.put, List.setIfInBounds_toArray, List.set_cons_succ, List.set_cons_zero]
                    refine Lim.stepR 35 (fun _ => trivial) rfl (by kernel_rfl) (fun _ _ _ _ h => h) hC35 rfl ?_; apply Exists.intro; refine ⟨?_, ?_⟩
                    · rintro w ⟨r1, r2, r3, r4⟩; go_simp; try with_reducible rfl
                    simp only [Act.put, List.setIfInBounds_toArray, List.set_cons_succ, List.set_cons_zero]
                    refine Lim.stepR 36 (fun _ => trivial) rfl (by kernel_rfl) (fun _ _ _ _ h => h) hC35 rfl ?_; apply Exists.intro; refine ⟨?_, ?_⟩
                    · rintro w ⟨r1, r2, r3, r4⟩; go_simp; try with_reducible rfl
                    simp only [Act.put, List.setIfInBounds_toArray, List.set_cons_succ, List.set_cons_zero]
                    refine Lim.stepR 37 (fun _ => trivial) rfl (by kernel_rfl) (fun _ _ _ _ h => h) hC35 rfl ?_; apply Exists.intro; refine ⟨?_, ?_⟩
                    · rintro w ⟨r1, r2, r3, r4⟩; go_simp; try with_reducible rfl
                    simp only [Act.put, List.setIfInBounds_toArray, List.set_cons_succ, List.set_cons_zero]
                    refine Lim.stepR 38 (fun _ => trivial) rfl (by kernel_rfl) (fun _ _ _ _ h => h) hC35 rfl ?_; apply Exists.intro; refine ⟨?_, ?_⟩
                    · rintro w ⟨r1, r2, r3, r4⟩; go_simp; try with_reducible rfl
                    simp only [Act.put, List.setIfInBounds_toArray, List.set_cons_succ, List.set_cons_zero]
                    refine Lim.stepR 39 (fun _ => trivial) rfl (by kernel_rfl) (fun _ _ _ _ h => h) hC35 rfl ?_; apply Exists.intro; refine ⟨?_, ?_⟩
                    · rintro w ⟨r1, r2, r3, r4⟩; go_simp; try with_reducible rfl
                    simp only [Act.put, List.setIfInBounds_toArray, List.set_cons_succ, List.set_cons_zero]
                    refine Lim.stepR 40 (fun _ => trivial) rfl (by kernel_rfl) (fun _ _ _ _ h => h) hC35 rfl ?_; apply Exists.intro; refine ⟨?_, ?_⟩
                    · rintro w ⟨r1, r2, r3, r4⟩; go_simp; try with_reducible rfl
                    simp only [Act.put, List.setIfInBounds_toArray, List.set_cons_succ, List.set_cons_zero]
                    refine Lim.stepR 42 (fun _ => trivial) rfl (by kernel_rfl) (fun _ _ _ _ h => h) hC35 rfl ?_; apply Exists.intro; refine ⟨?_, ?_⟩
                    · rintro w ⟨r1, r2, r3, r4⟩; go_simp; try with_reducible rfl
                    simp only [Act.put, List.setIfInBounds_toArray, List.set_cons_succ, List.set_cons_zero]
                    refine Lim.stepR 43 (fun _ => trivial) rfl (by kernel_rfl) (fun _ _ _ _ h => h) hC35 rfl ?_; apply Exists.intro; refine ⟨?_, ?_⟩
                    · rintro w ⟨r1, r2, r3, r4⟩; go_simp; try with_reducible rfl
                    simp only [Act.put, List.setIfInBounds_toArray, List.set_cons_succ, List.set_cons_zero]
                    refine Lim.stepE 41 (fun _ => trivial) rfl (by kernel_rfl) rfl (fun K hK => ?_)   -- E call
                    go_simp
                    refine ⟨rfl, (callsIn_wide.2 HK1.out).mono ?_⟩
                    rintro e w' ⟨rfl, rfl⟩
                    refine hK _ _ hC35 ?_
                    simp only [Act.put, List.setIfInBounds_toArray, List.set_cons_succ, List.set_cons_zero]
                    refine Lim.stepE 44 (fun _ => trivial) rfl (by kernel_rfl) rfl (fun K hK => ?_)   -- E call
                    go_simp
                    refine ⟨rfl, (callsIn_wide.2 HK2.out).mono ?_⟩
                    rintro e w' ⟨rfl, rfl⟩
                    refine hK _ _ hC35 ?_
                    simp only [Act.put, List.setIfInBounds_toArray, List.set_cons_succ, List.set_cons_zero]
                    refine Lim.stepR 45 (fun _ => trivial) rfl (by kernel_rfl) (fun _ _ _ _ h => h) hC35 rfl ?_; apply Exists.intro; refine ⟨?_, ?_⟩
                    · rintro w ⟨r1, r2, r3, r4⟩; go_simp; try with_reducible rfl
                    simp only [Act.put, List.setIfInBounds_toArray, List.set_cons_succ, List.set_cons_zero]
                    refine Lim.stepR 46 (fun _ => trivial) rfl (by kernel_rfl) (fun _ _ _ _ h => h) hC35 rfl ?_; apply Exists.intro; refine ⟨?_, ?_⟩
                    · rintro w ⟨r1, r2, r3, r4⟩; go_simp; try with_reducible rfl
                    simp only [Act.put, List.setIfInBounds_toArray, List.set_cons_succ, List.set_cons_zero]
                    refine Lim.stepD (by kernel_rfl) ?_
                    clear hC35
                    go_wp2_with fail
                    go_roundw
                    case rel => exact ⟨p + 1, by omega, by go_num, hW'⟩
                    case measure => simp [intOf]; omega
                · obtain rfl : n = p := by omega
                  have HJ2 : Hid (Below w15.heap.size w15 wr) := Lib.hid (HB20.out.trans (hI.out.mono HB20.out.size))
                  go_wp2_with fail
                  go_roundw
                  case rel => exact ⟨j + 1, by omega, by go_num, HJ2⟩
                  case measure => simp [intOf]; omega
            · have hj3' : (j : Int) = 3 := by omega
              have hn3 : ¬ ((j : Int) < 3) := by omega
              have CA := Lib.hid (awake_any wr)
              clear hj3'
              go_wp2_with fail
              refine CA.out.mono ?_
              rintro e w30 ⟨rfl, hb30⟩
              have HBF := Lib.hid (HBW.out.trans ((hJ.out.trans (hb30.mono hJ.out.size)).mono HBW.out.size))
              clear hb30
              go_wp2
              go_ret
              exact ⟨rfl, HBF.out⟩
end Go.Proofs.Ytkjcnkkmhkcddaa
