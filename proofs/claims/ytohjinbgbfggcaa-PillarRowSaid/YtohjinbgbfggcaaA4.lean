/-
  Parts of the proof, in the order in which they build: Par, ParE.
-/
import Derived.Test.YtohjinbgbfggcaaA0
set_option linter.unusedVariables false
set_option linter.unusedSimpArgs false
/-
  Regions that draw their order, where several effects may come up in any order: one obligation for each effect.
-/
namespace Go.Proofs.Ytohjinbgbfggcaa.Lim
open Go
section
variable {F : Fence} {n : Nat} {P : Program} {Q : Exit → Act → World → Prop} {C : World → Prop} {l : List Oper}

/-- operation i waits for j -/
def waitsOn (ops : Array Oper) (i j : Nat) : Bool := ((ops[i]?).map fun o => o.after.any fun e => Region.binds .any e && e.on == j).getD false
def okPar (ops : Array Oper) (T : List Nat) (base : Array Bool) : Bool :=
  noDefer ops && base.size == ops.size && ((List.range ops.size).all fun j => base.getD j true == !T.contains j) && (T.all fun i => decide (i < ops.size)) &&
  ((List.range ops.size).all fun j => ((ops[j]?).map fun o => o.guard.isNone || !T.contains j).getD false) &&
  ((List.range ops.size).all fun j => ((ops[j]?).map fun o => o.after.all fun e => !Region.binds .any e || decide (e.on < j)).getD false)

theorem cnt_lt {done : Nat → Bool} {i : Nat} (hd : done i = false) : ∀ T : List Nat, i ∈ T → (T.filter fun j => !(if j = i then true else done j)).length < (T.filter fun j => !done j).length
  | [], h => absurd h (by simp)
  | x :: T, h => by
    have mono : (T.filter fun j => !(if j = i then true else done j)).length ≤ (T.filter fun j => !done j).length := by
      clear h
      induction T with
      | nil => simp
      | cons y T ih =>
        by_cases e : y = i
        · subst e; simp only [List.filter_cons, hd]; simp; simp at ih; omega
        · cases hy : done y <;> simp only [List.filter_cons, if_neg e, hy] <;> simp <;> simp at ih <;> omega
    by_cases e : x = i
    · subst e
      simp only [List.filter_cons, hd]; simp; simp at mono; omega
    · have ih := cnt_lt hd T (by rcases List.mem_cons.1 h with h | h; exact absurd h.symm e; exact h)
      cases hx : done x <;> simp only [List.filter_cons, if_neg e, hx] <;> simp <;> simp at ih <;> omega

/-- EFFECTS IN ANY ORDER: S says what holds while those of T that 'done' names are done. -/
theorem parC {E : List Nat} (T : List Nat) (S : (Nat → Bool) → Act → World → Prop) {fuel : Nat} {listed : Array Bool} {a : Act} {w : World} (hF : ∀ f, F.fn f) (hk : okPar l.toArray T listed = true) (hfuel : T.length = fuel) (hE : E = [])
    (hC : ∀ done a w, S done a w → C w)
    (hstep : ∀ i o, i ∈ T → nthO l i = some o → ∀ done a w, done i = false → (∀ j, waitsOn l.toArray i j = true → j ∈ T → done j = true) → S done a w →
      ∀ K : Act → World → Prop, (∀ a' w', S (fun j => if j = i then true else done j) a' w' → K a' w') → o.uponIn F n P a K Q ((execOp a.eval o).run P w))
    (hend : ∀ done a w, (∀ i ∈ T, done i = true) → S done a w → Q .normal a w)
    (h : S (fun _ => false) a w) : anyC F n P l.toArray Q C E fuel listed a w := by
  subst hE
  simp only [okPar, Bool.and_eq_true, beq_iff_eq] at hk
  obtain ⟨⟨⟨⟨⟨hk1, hk2⟩, hk3⟩, hk4⟩, hk5⟩, hk6⟩ := hk
  have key : ∀ (fuel : Nat) (done : Nat → Bool) (L : Array Bool) (a : Act) (w : World), (T.filter fun j => !done j).length ≤ fuel →
      (∀ j, j < l.toArray.size → L.getD j true = (!T.contains j || done j)) → L.size = l.toArray.size → S done a w → anyC F n P l.toArray Q C [] fuel L a w := by
    intro fuel
    have hrd : ∀ (done : Nat → Bool) (L : Array Bool) (a : Act) (w : World), (∀ j, j < l.toArray.size → L.getD j true = (!T.contains j || done j)) → L.size = l.toArray.size →
        Region.ready .any l.toArray L = [] → ∀ i, i ∈ T → done i = true := by
      intro done L a w hL hs hr i
      induction i using Nat.strongRecOn with
      | _ i ih =>
        intro hi
        by_cases hd : done i = true
        · exact hd
        · exfalso
          have hlt : i < l.toArray.size := by simpa using List.all_eq_true.1 hk4 i hi
          have hmem : i ∈ Region.ready .any l.toArray L := by
            refine mem_ready.2 ⟨?_, ?_⟩
            · rw [hL i hlt]
              simp [hi, hd]
            · refine ⟨l.toArray[i], Array.getElem?_eq_getElem hlt, fun e he hb => ?_⟩
              have h6 := List.all_eq_true.1 hk6 i (List.mem_range.2 hlt)
              rw [Array.getElem?_eq_getElem hlt] at h6
              simp only [Option.map_some, Option.getD_some] at h6
              have h7 := Array.all_eq_true_iff_forall_mem.1 h6 e he
              rw [hb] at h7
              have h8 : e.on < i := by simpa using h7
              have h9 := hL e.on (by omega)
              have h10 : L.getD e.on true = true := by
                rw [h9]
                by_cases hT : e.on ∈ T
                · rw [ih e.on h8 hT]; simp
                · simp [hT]
              have : e.on < L.size := by omega
              simp [this] at h10 ⊢
              exact h10
          rw [hr] at hmem
          cases hmem
    induction fuel with
    | zero =>
      intro done L a w hc hL hs hS
      have hall : ∀ i, i ∈ T → done i = true := fun i hi => by
        have : (T.filter fun j => !done j) = [] := List.length_eq_zero_iff.1 (by omega)
        by_cases hd : done i = true
        · exact hd
        · have : i ∈ T.filter fun j => !done j := List.mem_filter.2 ⟨hi, by simpa using hd⟩
          simp_all
      refine ⟨?_, hend done a w hall hS⟩
      apply List.eq_nil_iff_forall_not_mem.2
      intro i hi
      obtain ⟨h1, o, ho, _⟩ := mem_ready.1 hi
      have hlt : i < l.toArray.size := (Array.getElem?_eq_some_iff.1 ho).1
      rw [hL i hlt] at h1
      simp at h1
      rw [hall i h1.1] at h1
      simp at h1
    | succ fuel ih =>
      intro done L a w hc hL hs hS
      refine ⟨fun hr => hend done a w (hrd done L a w hL hs hr) hS, fun i hi => ?_⟩
      obtain ⟨h1, o, ho, hall⟩ := mem_ready.1 hi
      have hlt : i < l.toArray.size := (Array.getElem?_eq_some_iff.1 ho).1
      rw [hL i hlt] at h1
      have h1' : i ∈ T ∧ done i = false := by simpa using h1
      obtain ⟨hiT, hd⟩ := h1'
      have hn : nthO l i = some o := (nthO_eq l i).symm.trans ho
      have hw : Region.wanted o (yielded l.toArray a.tmps) = true := by
        have h5 := List.all_eq_true.1 hk5 i (List.mem_range.2 hlt)
        rw [ho] at h5
        have h6 : o.guard.isNone = true := by simpa [hiT] using h5
        unfold Region.wanted
        cases hg : o.guard with
        | none => rfl
        | some x => rw [hg] at h6; cases h6
      have hdep : ∀ j, waitsOn l.toArray i j = true → j ∈ T → done j = true := by
        intro j hj hjT
        unfold waitsOn at hj
        rw [ho] at hj
        simp only [Option.map_some, Option.getD_some] at hj
        obtain ⟨e, he, hb⟩ := Array.any_eq_true'.1 hj
        simp only [Bool.and_eq_true, beq_iff_eq] at hb
        obtain ⟨hb, rfl⟩ := hb
        have h2 := hall e he hb
        have hjl : e.on < l.toArray.size := by simpa using List.all_eq_true.1 hk4 e.on hjT
        have h3 := hL e.on hjl
        have h4 : e.on < L.size := by omega
        simp [h4] at h2 h3
        rw [h2] at h3
        simpa [hjT] using h3.symm
      have hop : Go.wpOpIn F n P l.toArray Q i (S (fun j => if j = i then true else done j)) a w := by
        unfold Go.wpOpIn
        simp only [ho, hw, if_true]
        refine ⟨fun f _ => hF f, ?_⟩
        rw [Oper.semAt_eq _ _ _ (noDefer_spec hk1 ho)]
        exact hstep i o hiT hn done a w hd hdep hS _ (fun _ _ h => h)
      refine wpOpIn_mono (fun a' w' hS' => .inr ⟨by simp, hC _ _ _ hS', ?_⟩) hop
      refine ih (fun j => if j = i then true else done j) _ a' w' (by have := cnt_lt hd T hiT; omega) ?_ (by simpa using hs) hS'
      intro j hj
      by_cases e : j = i
      · subst e
        have : j < L.size := by omega
        simp [this]
      · rw [getD_set_ne true (fun e' => e e'.symm), hL j hj]
        simp [e]
  refine key fuel (fun _ => false) listed a w (Nat.le_trans (List.length_filter_le _ _) (by omega)) (fun j hj => ?_) hk2 h
  have := List.all_eq_true.1 hk3 j (List.mem_range.2 hj)
  simpa using this
/-- append within a region -/
theorem append_upon {o : Oper} {a : Act} {K : Act → World → Prop} {w w' : World} {t : TypeId} {s x : Operand} {sv xv v : Value} (hop : o.op = Op.call { callee := Callee.builtin Builtin.append, args := #[s, x], argTypes := #[t, t] })
    (hs : a.eval s = sv) (hx : a.eval x = xv) (h : (Builtin.append_ #[t, t] o.type #[sv, xv]).run P w = .ok v w') (hK : K (a.put o.dst v) w') : o.uponIn F n P a K Q ((execOp a.eval o).run P w) := by
  simp [execOp, hop, resolve, invoke, builtin, hs, hx, h, Result.andThen, Oper.uponIn]
  exact hK
end
end Go.Proofs.Ytohjinbgbfggcaa.Lim
/-
  Regions that draw their order: effects in any order, some of which change what the region reads.
-/
namespace Go.Proofs.Ytohjinbgbfggcaa.Lim
open Go
section
variable {F : Fence} {n : Nat} {P : Program} {Q : Exit → Act → World → Prop} {C : World → Prop} {l : List Oper}
/-- EFFECTS IN ANY ORDER, some of which (E) leave the class of what was read: S says what holds while those of T that 'done' names are done. -/
theorem parE {E : List Nat} (T : List Nat) (S : (Nat → Bool) → Act → World → Prop) {fuel : Nat} {listed : Array Bool} {a : Act} {w : World} (hF : ∀ f, F.fn f) (hk : okPar l.toArray T listed = true) (hfuel : T.length = fuel)
    (hC : ∀ done a w, S done a w → (∀ i ∈ E, done i = false) → C w)
    (hstep : ∀ i o, i ∈ T → nthO l i = some o → ∀ done a w, done i = false → (∀ j, waitsOn l.toArray i j = true → j ∈ T → done j = true) → S done a w →
      ∀ K : Act → World → Prop, (∀ a' w', S (fun j => if j = i then true else done j) a' w' → K a' w') → o.uponIn F n P a K Q ((execOp a.eval o).run P w))
    (hend : ∀ done a w, (∀ i ∈ T, done i = true) → S done a w → Q .normal a w)
    (h : S (fun _ => false) a w) : anyC F n P l.toArray Q C E fuel listed a w := by
  simp only [okPar, Bool.and_eq_true, beq_iff_eq] at hk
  obtain ⟨⟨⟨⟨⟨hk1, hk2⟩, hk3⟩, hk4⟩, hk5⟩, hk6⟩ := hk
  have keyT : ∀ (fuel : Nat) (done : Nat → Bool) (L : Array Bool) (a : Act) (w : World), (T.filter fun j => !done j).length ≤ fuel →
      (∀ j, j < l.toArray.size → L.getD j true = (!T.contains j || done j)) → L.size = l.toArray.size → S done a w → anyC F n P l.toArray Q (fun _ => True) [] fuel L a w := by
    intro fuel
    have hrd : ∀ (done : Nat → Bool) (L : Array Bool) (a : Act) (w : World), (∀ j, j < l.toArray.size → L.getD j true = (!T.contains j || done j)) → L.size = l.toArray.size →
        Region.ready .any l.toArray L = [] → ∀ i, i ∈ T → done i = true := by
      intro done L a w hL hs hr i
      induction i using Nat.strongRecOn with
      | _ i ih =>
        intro hi
        by_cases hd : done i = true
        · exact hd
        · exfalso
          have hlt : i < l.toArray.size := by simpa using List.all_eq_true.1 hk4 i hi
          have hmem : i ∈ Region.ready .any l.toArray L := by
            refine mem_ready.2 ⟨?_, ?_⟩
            · rw [hL i hlt]
              simp [hi, hd]
            · refine ⟨l.toArray[i], Array.getElem?_eq_getElem hlt, fun e he hb => ?_⟩
              have h6 := List.all_eq_true.1 hk6 i (List.mem_range.2 hlt)
              rw [Array.getElem?_eq_getElem hlt] at h6
              simp only [Option.map_some, Option.getD_some] at h6
              have h7 := Array.all_eq_true_iff_forall_mem.1 h6 e he
              rw [hb] at h7
              have h8 : e.on < i := by simpa using h7
              have h9 := hL e.on (by omega)
              have h10 : L.getD e.on true = true := by
                rw [h9]
                by_cases hT : e.on ∈ T
                · rw [ih e.on h8 hT]; simp
                · simp [hT]
              have : e.on < L.size := by omega
              simp [this] at h10 ⊢
              exact h10
          rw [hr] at hmem
          cases hmem
    induction fuel with
    | zero =>
      intro done L a w hc hL hs hS
      have hall : ∀ i, i ∈ T → done i = true := fun i hi => by
        have : (T.filter fun j => !done j) = [] := List.length_eq_zero_iff.1 (by omega)
        by_cases hd : done i = true
        · exact hd
        · have : i ∈ T.filter fun j => !done j := List.mem_filter.2 ⟨hi, by simpa using hd⟩
          simp_all
      refine ⟨?_, hend done a w hall hS⟩
      apply List.eq_nil_iff_forall_not_mem.2
      intro i hi
      obtain ⟨h1, o, ho, _⟩ := mem_ready.1 hi
      have hlt : i < l.toArray.size := (Array.getElem?_eq_some_iff.1 ho).1
      rw [hL i hlt] at h1
      simp at h1
      rw [hall i h1.1] at h1
      simp at h1
    | succ fuel ih =>
      intro done L a w hc hL hs hS
      refine ⟨fun hr => hend done a w (hrd done L a w hL hs hr) hS, fun i hi => ?_⟩
      obtain ⟨h1, o, ho, hall⟩ := mem_ready.1 hi
      have hlt : i < l.toArray.size := (Array.getElem?_eq_some_iff.1 ho).1
      rw [hL i hlt] at h1
      have h1' : i ∈ T ∧ done i = false := by simpa using h1
      obtain ⟨hiT, hd⟩ := h1'
      have hn : nthO l i = some o := (nthO_eq l i).symm.trans ho
      have hw : Region.wanted o (yielded l.toArray a.tmps) = true := by
        have h5 := List.all_eq_true.1 hk5 i (List.mem_range.2 hlt)
        rw [ho] at h5
        have h6 : o.guard.isNone = true := by simpa [hiT] using h5
        unfold Region.wanted
        cases hg : o.guard with
        | none => rfl
        | some x => rw [hg] at h6; cases h6
      have hdep : ∀ j, waitsOn l.toArray i j = true → j ∈ T → done j = true := by
        intro j hj hjT
        unfold waitsOn at hj
        rw [ho] at hj
        simp only [Option.map_some, Option.getD_some] at hj
        obtain ⟨e, he, hb⟩ := Array.any_eq_true'.1 hj
        simp only [Bool.and_eq_true, beq_iff_eq] at hb
        obtain ⟨hb, rfl⟩ := hb
        have h2 := hall e he hb
        have hjl : e.on < l.toArray.size := by simpa using List.all_eq_true.1 hk4 e.on hjT
        have h3 := hL e.on hjl
        have h4 : e.on < L.size := by omega
        simp [h4] at h2 h3
        rw [h2] at h3
        simpa [hjT] using h3.symm
      have hop : Go.wpOpIn F n P l.toArray Q i (S (fun j => if j = i then true else done j)) a w := by
        unfold Go.wpOpIn
        simp only [ho, hw, if_true]
        refine ⟨fun f _ => hF f, ?_⟩
        rw [Oper.semAt_eq _ _ _ (noDefer_spec hk1 ho)]
        exact hstep i o hiT hn done a w hd hdep hS _ (fun _ _ h => h)
      refine wpOpIn_mono (fun a' w' hS' => .inr ⟨by simp, trivial, ?_⟩) hop
      refine ih (fun j => if j = i then true else done j) _ a' w' (by have := cnt_lt hd T hiT; omega) ?_ (by simpa using hs) hS'
      intro j hj
      by_cases e : j = i
      · subst e
        have : j < L.size := by omega
        simp [this]
      · rw [getD_set_ne true (fun e' => e e'.symm), hL j hj]
        simp [e]
  have key : ∀ (fuel : Nat) (done : Nat → Bool) (L : Array Bool) (a : Act) (w : World), (T.filter fun j => !done j).length ≤ fuel →
      (∀ j, j < l.toArray.size → L.getD j true = (!T.contains j || done j)) → L.size = l.toArray.size → (∀ i ∈ E, done i = false) → S done a w → anyC F n P l.toArray Q C E fuel L a w := by
    intro fuel
    have hrd : ∀ (done : Nat → Bool) (L : Array Bool) (a : Act) (w : World), (∀ j, j < l.toArray.size → L.getD j true = (!T.contains j || done j)) → L.size = l.toArray.size →
        Region.ready .any l.toArray L = [] → ∀ i, i ∈ T → done i = true := by
      intro done L a w hL hs hr i
      induction i using Nat.strongRecOn with
      | _ i ih =>
        intro hi
        by_cases hd : done i = true
        · exact hd
        · exfalso
          have hlt : i < l.toArray.size := by simpa using List.all_eq_true.1 hk4 i hi
          have hmem : i ∈ Region.ready .any l.toArray L := by
            refine mem_ready.2 ⟨?_, ?_⟩
            · rw [hL i hlt]
              simp [hi, hd]
            · refine ⟨l.toArray[i], Array.getElem?_eq_getElem hlt, fun e he hb => ?_⟩
              have h6 := List.all_eq_true.1 hk6 i (List.mem_range.2 hlt)
              rw [Array.getElem?_eq_getElem hlt] at h6
              simp only [Option.map_some, Option.getD_some] at h6
              have h7 := Array.all_eq_true_iff_forall_mem.1 h6 e he
              rw [hb] at h7
              have h8 : e.on < i := by simpa using h7
              have h9 := hL e.on (by omega)
              have h10 : L.getD e.on true = true := by
                rw [h9]
                by_cases hT : e.on ∈ T
                · rw [ih e.on h8 hT]; simp
                · simp [hT]
              have : e.on < L.size := by omega
              simp [this] at h10 ⊢
              exact h10
          rw [hr] at hmem
          cases hmem
    induction fuel with
    | zero =>
      intro done L a w hc hL hs hEd hS
      have hall : ∀ i, i ∈ T → done i = true := fun i hi => by
        have : (T.filter fun j => !done j) = [] := List.length_eq_zero_iff.1 (by omega)
        by_cases hd : done i = true
        · exact hd
        · have : i ∈ T.filter fun j => !done j := List.mem_filter.2 ⟨hi, by simpa using hd⟩
          simp_all
      refine ⟨?_, hend done a w hall hS⟩
      apply List.eq_nil_iff_forall_not_mem.2
      intro i hi
      obtain ⟨h1, o, ho, _⟩ := mem_ready.1 hi
      have hlt : i < l.toArray.size := (Array.getElem?_eq_some_iff.1 ho).1
      rw [hL i hlt] at h1
      simp at h1
      rw [hall i h1.1] at h1
      simp at h1
    | succ fuel ih =>
      intro done L a w hc hL hs hEd hS
      refine ⟨fun hr => hend done a w (hrd done L a w hL hs hr) hS, fun i hi => ?_⟩
      obtain ⟨h1, o, ho, hall⟩ := mem_ready.1 hi
      have hlt : i < l.toArray.size := (Array.getElem?_eq_some_iff.1 ho).1
      rw [hL i hlt] at h1
      have h1' : i ∈ T ∧ done i = false := by simpa using h1
      obtain ⟨hiT, hd⟩ := h1'
      have hn : nthO l i = some o := (nthO_eq l i).symm.trans ho
      have hw : Region.wanted o (yielded l.toArray a.tmps) = true := by
        have h5 := List.all_eq_true.1 hk5 i (List.mem_range.2 hlt)
        rw [ho] at h5
        have h6 : o.guard.isNone = true := by simpa [hiT] using h5
        unfold Region.wanted
        cases hg : o.guard with
        | none => rfl
        | some x => rw [hg] at h6; cases h6
      have hdep : ∀ j, waitsOn l.toArray i j = true → j ∈ T → done j = true := by
        intro j hj hjT
        unfold waitsOn at hj
        rw [ho] at hj
        simp only [Option.map_some, Option.getD_some] at hj
        obtain ⟨e, he, hb⟩ := Array.any_eq_true'.1 hj
        simp only [Bool.and_eq_true, beq_iff_eq] at hb
        obtain ⟨hb, rfl⟩ := hb
        have h2 := hall e he hb
        have hjl : e.on < l.toArray.size := by simpa using List.all_eq_true.1 hk4 e.on hjT
        have h3 := hL e.on hjl
        have h4 : e.on < L.size := by omega
        simp [h4] at h2 h3
        rw [h2] at h3
        simpa [hjT] using h3.symm
      have hop : Go.wpOpIn F n P l.toArray Q i (S (fun j => if j = i then true else done j)) a w := by
        unfold Go.wpOpIn
        simp only [ho, hw, if_true]
        refine ⟨fun f _ => hF f, ?_⟩
        rw [Oper.semAt_eq _ _ _ (noDefer_spec hk1 ho)]
        exact hstep i o hiT hn done a w hd hdep hS _ (fun _ _ h => h)
      have hLn : ∀ j, j < l.toArray.size → (L.setIfInBounds i true).getD j true = (!T.contains j || (if j = i then true else done j)) := by
        intro j hj
        by_cases e : j = i
        · subst e
          have : j < L.size := by omega
          simp [this]
        · rw [getD_set_ne true (fun e' => e e'.symm), hL j hj]
          simp [e]
      have hcn : (T.filter fun j => !(if j = i then true else done j)).length ≤ fuel := by have := cnt_lt hd T hiT; omega
      refine wpOpIn_mono (fun a' w' hS' => ?_) hop
      by_cases hiE : i ∈ E
      · exact .inl ⟨hiE, anyC.sound _ _ _ _ (keyT fuel (fun j => if j = i then true else done j) _ a' w' hcn hLn (by simpa using hs) hS')⟩
      · have hEd' : ∀ j ∈ E, (if j = i then true else done j) = false := fun j hj => by
          have e : ¬ j = i := fun e => hiE (e ▸ hj)
          rw [if_neg e]; exact hEd j hj
        exact .inr ⟨hiE, hC _ _ _ hS' hEd', ih (fun j => if j = i then true else done j) _ a' w' hcn hLn (by simpa using hs) hEd' hS'⟩
  refine key fuel (fun _ => false) listed a w (Nat.le_trans (List.length_filter_le _ _) (by omega)) (fun j hj => ?_) hk2 (fun _ _ => rfl) h
  have := List.all_eq_true.1 hk3 j (List.mem_range.2 hj)
  simpa using this
end
end Go.Proofs.Ytohjinbgbfggcaa.Lim
