/-
  Parts of the proof, in the order in which they build: Lim.
-/
import Derived.OrdersIn
import Derived.KernelRfl
import Derived.Laws.World
set_option linter.unusedVariables false
set_option linter.unusedSimpArgs false
namespace Go.Proofs.Ytohjinbgbfggcaa.Lim
open Go
section
variable {F : Fence} {n : Nat} {P : Program} {ops : Array Oper} {Q : Exit → Act → World → Prop} {C : World → Prop}

def noDefer (ops : Array Oper) : Bool := ops.all fun o => match o.op with | .defer .. => false | _ => true
theorem noDefer_spec (h : noDefer ops = true) {j : Nat} {o : Oper} (ho : ops[j]? = some o) : ∀ c, o.op ≠ .defer c := by
  intro c heq
  have := Array.all_eq_true_iff_forall_mem.1 h o (Array.mem_of_getElem? ho)
  simp [heq] at this

/-- o yields v in every world of the class C, and leaves the world as it is (or it is not wanted). -/
def YC (P : Program) (ops : Array Oper) (C : World → Prop) (o : Oper) (v : Value) (a : Act) : Prop :=
  (Region.wanted o (yielded ops a.tmps) = true ∧ ∀ w, C w → (execOp a.eval o).run P w = .ok (.value v) w) ∨
  (Region.wanted o (yielded ops a.tmps) = false ∧ v = undef)

theorem YC.of_same {o : Oper} {v : Value} {a a' : Act} (hy : YC P ops C o v a) (he : execOp a'.eval o = execOp a.eval o)
    (hw : Region.wanted o (yielded ops a'.tmps) = Region.wanted o (yielded ops a.tmps)) : YC P ops C o v a' := by
  unfold YC at *
  rw [he, hw]
  exact hy

theorem YC.wpOpIn {i : Nat} {o : Oper} {v : Value} {a : Act} (hF : ∀ f, F.fn f) (hd : noDefer ops = true) (hi : ops[i]? = some o) (hy : YC P ops C o v a)
    {K : Act → World → Prop} {w : World} (hC : C w) (h : K (a.put o.dst v) w) : wpOpIn F n P ops Q i K a w := by
  unfold Go.wpOpIn
  simp only [hi]
  rcases hy with ⟨hw, hv⟩ | ⟨hw, rfl⟩
  · simp only [hw, if_true, Oper.wpIn, Oper.semAt_eq _ _ _ (noDefer_spec hd hi), hv w hC, Oper.uponIn]; exact ⟨fun f _ => hF f, h⟩
  · simp only [hw, Bool.false_eq_true, if_false]; exact ⟨fun f _ => hF f, h⟩

theorem wpOpIn_putC {j : Nat} {oi oj : Oper} {v : Value} (hd : noDefer ops = true) (hj : ops[j]? = some oj) (hap : oi.apart ops oj = true)
    (hsi : ∀ cs b, oi.op ≠ .select cs b) (hsj : ∀ cs b, oj.op ≠ .select cs b)
    (hQ : ∀ c a w, Q (.panic c) (a.put oi.dst v) w → Q (.panic c) a w) {K : Act → World → Prop} {a : Act} {w : World}
    (hy : YC P ops C oi v a) (h : Go.wpOpIn F n P ops Q j K (a.put oi.dst v) w) :
    Go.wpOpIn F n P ops Q j (fun a' w' => YC P ops C oi v a' ∧ K (a'.put oi.dst v) w') a w := by
  obtain ⟨h1, h2, h3⟩ := Oper.apart_spec hap
  have keep : ∀ (a : Act), YC P ops C oi v a → ∀ u, YC P ops C oi v (a.put oj.dst u) := fun a hy u =>
    hy.of_same (execOp_put oi hsi a oj.dst u h3) (wanted_put oi a oj.dst u h3)
  have keepD : ∀ d, YC P ops C oi v { a with defers := d :: a.defers } := fun d => hy.of_same rfl rfl
  unfold Go.wpOpIn at *
  simp only [hj] at h ⊢
  rw [wanted_put oj a oi.dst v h1, about_put oj w a oi.dst v h1] at h
  split
  · rename_i hw
    simp only [hw, if_true] at h
    unfold Oper.wpIn at *
    rw [about_put oj w a oi.dst v h1] at h
    refine ⟨h.1, ?_⟩
    have h := h.2
    rw [Oper.semAt_eq _ _ _ (noDefer_spec hd hj), execOp_put oj hsj a oi.dst v h1] at h
    rw [Oper.semAt_eq _ _ _ (noDefer_spec hd hj)]
    generalize (execOp a.eval oj).run P w = r at *
    cases r with
    | ok x w' =>
      cases x <;> simp only [Oper.uponIn] at h ⊢
      case value u => exact ⟨keep a hy u, by rw [← Act.put_comm a v u h2]; exact h⟩
      case skip => exact ⟨keep a hy _, by rw [← Act.put_comm a v undef h2]; exact h⟩
      case defer d =>
        refine ⟨keep _ (keepD d) _, ?_⟩
        rw [← Act.put_comm _ v undef h2, ← Act.put_defers]
        exact h
      case enter f args =>
        refine ⟨h.1, CallsIn.mono h.2 fun e w'' he => ?_⟩
        cases e with
        | returned u => exact ⟨keep a hy u, by rw [← Act.put_comm a v u h2]; exact he⟩
        | panicked c => exact hQ _ _ _ he
        | outgrown => exact he
      case row row args => exact ⟨h.1, RowsIn.mono h.2 fun u w'' he => ⟨keep a hy u, by rw [← Act.put_comm a v u h2]; exact he⟩⟩
      case round l f tmps assign body =>
        refine ⟨h.1, RoundIn.mono h.2 fun e w'' he => ?_⟩
        cases e with
        | returned u => exact ⟨keep a hy u, by rw [← Act.put_comm a v u h2]; exact he⟩
        | panicked c => exact hQ _ _ _ he
        | outgrown => exact he
    | halt x w' =>
      cases x <;> simp only [Oper.uponIn] at h ⊢
      case panic u => exact hQ _ _ _ h
  · rename_i hw
    simp only [hw] at h
    exact ⟨h.1, keep a hy _, by rw [← Act.put_comm a v undef h2]; exact h.2⟩

/-- every order of what is not yet listed; what is done stays in the class C, but for the operations of E, behind which nothing is said of C -/
def anyC (F : Fence) (n : Nat) (P : Program) (ops : Array Oper) (Q : Exit → Act → World → Prop) (C : World → Prop) (E : List Nat) : Nat → Array Bool → Act → World → Prop
  | 0, listed, a, w => Region.ready .any ops listed = [] ∧ Q .normal a w
  | fuel + 1, listed, a, w =>
    (Region.ready .any ops listed = [] → Q .normal a w) ∧
    ∀ i ∈ Region.ready .any ops listed, Go.wpOpIn F n P ops Q i (fun a' w' => (i ∈ E ∧ wpAnyIn F n P .any ops Q fuel (listed.setIfInBounds i true) a' w') ∨
      (¬ i ∈ E ∧ C w' ∧ anyC F n P ops Q C E fuel (listed.setIfInBounds i true) a' w')) a w

theorem anyC.sound {E : List Nat} : ∀ (fuel : Nat) (listed : Array Bool) (a : Act) (w : World), anyC F n P ops Q C E fuel listed a w → wpAnyIn F n P .any ops Q fuel listed a w
  | 0, _, _, _, h => h
  | fuel + 1, _, _, _, h => ⟨h.1, fun i hi => wpOpIn_mono (fun _ _ hk => hk.elim (fun h => h.2) (fun h => anyC.sound fuel _ _ _ h.2.2)) (h.2 i hi)⟩

/-- T: operations that are not listed, each of which waits for i or for another one of T: none of them may come up while i is not listed -/
def Waits (ops : Array Oper) (T : List Nat) (i : Nat) (listed : Array Bool) : Prop :=
  ∀ t ∈ T, t ≠ i ∧ listed.getD t true = false ∧ ∃ o, ops[t]? = some o ∧ ∃ e ∈ o.after, Region.binds .any e = true ∧ (e.on = i ∨ e.on ∈ T)

theorem getD_false {listed : Array Bool} {i : Nat} (h : listed.getD i true = false) : listed.getD i false = false := by
  rcases Nat.lt_or_ge i listed.size with h' | h'
  · simp [h'] at h ⊢; exact h
  · simp [Array.getElem?_eq_none h'] at h

theorem Waits.not_ready {T : List Nat} {i t : Nat} {listed : Array Bool} (h : Waits ops T i listed) (hi : listed.getD i true = false) (ht : t ∈ T) : ¬ t ∈ Region.ready .any ops listed := by
  intro hr
  obtain ⟨_, _, o, ho, e, he, hb, hon⟩ := h t ht
  obtain ⟨_, o', ho', hall⟩ := mem_ready.1 hr
  rw [ho] at ho'
  obtain rfl : o = o' := by simpa using ho'
  have h1 := hall e he hb
  rcases hon with hon | hon
  · rw [hon, getD_false hi] at h1; cases h1
  · rw [getD_false (h _ hon).2.1] at h1; cases h1

theorem Waits.set {T : List Nat} {i j : Nat} {listed : Array Bool} (h : Waits ops T i listed) (hj : ¬ j ∈ T) : Waits ops T i (listed.setIfInBounds j true) := by
  intro t ht
  obtain ⟨h0, h1, h2⟩ := h t ht
  exact ⟨h0, by rw [getD_set_ne true (fun e => by subst e; exact hj ht)]; exact h1, h2⟩

theorem go_on {E : List Nat} {i : Nat} {fuel : Nat} {listed : Array Bool} {a : Act} {w : World} (hC : C w) (H : anyC F n P ops Q C E fuel listed a w) :
    (i ∈ E ∧ wpAnyIn F n P .any ops Q fuel listed a w) ∨ (¬ i ∈ E ∧ C w ∧ anyC F n P ops Q C E fuel listed a w) := by
  by_cases h : i ∈ E
  · exact .inl ⟨h, anyC.sound _ _ _ _ H⟩
  · exact .inr ⟨h, hC, H⟩

theorem anyC_first {E T : List Nat} {i : Nat} {oi : Oper} {v : Value} (hF : ∀ f, F.fn f) (hd : noDefer ops = true) (hi : ops[i]? = some oi) (hsel : ∀ (j : Nat) (o : Oper) cs b, ops[j]? = some o → o.op ≠ .select cs b)
    (hQ : ∀ c a w, Q (.panic c) (a.put oi.dst v) w → Q (.panic c) a w) :
    ∀ (fuel : Nat) (listed : Array Bool) (a : Act) (w : World), C w →
      (∀ j oj, ops[j]? = some oj → j ≠ i → listed.getD j true = false → (∀ e ∈ oj.after, Region.binds .any e = true → e.on ≠ i) → oi.apart ops oj = true) →
      i ∈ Region.ready .any ops listed → Waits ops T i listed → (∀ j, j ∈ E → j ≠ i → listed.getD j true = false → j ∈ T) → YC P ops C oi v a →
      anyC F n P ops Q C E fuel (listed.setIfInBounds i true) (a.put oi.dst v) w → anyC F n P ops Q C E (fuel + 1) listed a w := by
  intro fuel
  induction fuel with
  | zero =>
    intro listed a w hC _ hr _ _ hy H
    refine ⟨fun h => (by rw [h] at hr; cases hr), fun j hj => ?_⟩
    by_cases hji : j = i
    · subst hji; exact hy.wpOpIn hF hd hi hC (go_on hC H)
    · have := ready_mono hj hji
      rw [H.1] at this
      cases this
  | succ fuel ih =>
    intro listed a w hC hfree hr hT hE hy H
    refine ⟨fun h => (by rw [h] at hr; cases hr), fun j hj => ?_⟩
    by_cases hji : j = i
    · subst hji; exact hy.wpOpIn hF hd hi hC (go_on hC H)
    · have hi0 := (mem_ready.1 hr).1
      have hjT : ¬ j ∈ T := fun ht => hT.not_ready hi0 ht hj
      have h1 := H.2 j (ready_mono hj hji)
      obtain ⟨hjun, oj, hoj, hall⟩ := mem_ready.1 hj
      have hjE : ¬ j ∈ E := fun he => hjT (hE j he hji hjun)
      have hnot : ∀ e ∈ oj.after, Region.binds .any e = true → e.on ≠ i := fun e he hb heq => by
        have h1 := hall e he hb
        rw [heq, getD_false hi0] at h1; cases h1
      have h2 := wpOpIn_putC hd hoj (hfree j oj hoj hji hjun hnot) (fun cs b => hsel i oi cs b hi) (fun cs b => hsel j oj cs b hoj) hQ hy h1
      have hfree' : ∀ k ok, ops[k]? = some ok → k ≠ i → (listed.setIfInBounds j true).getD k true = false →
          (∀ e ∈ ok.after, Region.binds .any e = true → e.on ≠ i) → oi.apart ops ok = true := fun k ok hk hki hun hno => by
        refine hfree k ok hk hki ?_ hno
        by_cases hjk : j = k
        · subst hjk; exact hjun
        · rw [getD_set_ne true hjk] at hun; exact hun
      have hE' : ∀ k, k ∈ E → k ≠ i → (listed.setIfInBounds j true).getD k true = false → k ∈ T := fun k hk hki hun => by
        refine hE k hk hki ?_
        by_cases hjk : j = k
        · subst hjk; exact hjun
        · rw [getD_set_ne true hjk] at hun; exact hun
      refine wpOpIn_mono (fun a' w' h3 => ?_) h2
      rcases h3.2 with h4 | h4
      · exact absurd h4.1 hjE
      · refine .inr ⟨hjE, h4.2.1, ih (listed.setIfInBounds j true) a' w' h4.2.1 hfree' (ready_mono hr (Ne.symm hji)) (hT.set hjT) hE' h3.1 ?_⟩
        rw [Array.setIfInBounds_comm _ _ hji]
        exact h4.2.2

/-- the operations not listed that wait for i, some through others: rounds of gathering -/
def waiting (ops : Array Oper) (listed : Array Bool) (i : Nat) : Nat → List Nat → List Nat
  | 0, T => T
  | k + 1, T => waiting ops listed i k ((List.range ops.size).filter fun j => j != i && !listed.getD j true &&
      ((ops[j]?).map fun o => o.after.any fun e => Region.binds .any e && (e.on == i || T.contains e.on)).getD false)
def waitsB (ops : Array Oper) (T : List Nat) (i : Nat) (listed : Array Bool) : Bool :=
  T.all fun t => t != i && !listed.getD t true && ((ops[t]?).map fun o => o.after.any fun e => Region.binds .any e && (e.on == i || T.contains e.on)).getD false
theorem waitsB_spec {T : List Nat} {i : Nat} {listed : Array Bool} (h : waitsB ops T i listed = true) : Waits ops T i listed := by
  intro t ht
  have := List.all_eq_true.1 h t ht
  simp only [Bool.and_eq_true, bne_iff_ne, ne_eq, Bool.not_eq_true'] at this
  obtain ⟨⟨h1, h2⟩, h3⟩ := this
  refine ⟨h1, h2, ?_⟩
  cases ho : ops[t]? with
  | none => simp [ho] at h3
  | some o =>
    simp only [ho, Option.map_some, Option.getD_some] at h3
    obtain ⟨e, he, hb⟩ := Array.any_eq_true'.1 h3
    simp only [Bool.and_eq_true, Bool.or_eq_true, beq_iff_eq, List.contains_iff_mem] at hb
    exact ⟨o, rfl, e, he, hb.1, hb.2⟩

/-- what is asked of the region and of the operation i ahead of taking i first: all of it is reckoned by the kernel -/
def okR (ops : Array Oper) (E : List Nat) (listed : Array Bool) (i : Nat) : Bool :=
  noDefer ops && Region.noSelect ops && Region.free .any ops listed i && (Region.ready .any ops listed).contains i &&
  (E.isEmpty || (waitsB ops (waiting ops listed i 24 []) i listed && E.all fun j => j == i || listed.getD j true || (waiting ops listed i 24 []).contains j))

theorem okR_spec {E : List Nat} {listed : Array Bool} {i : Nat} (h : okR ops E listed i = true) : noDefer ops = true ∧ Region.noSelect ops = true ∧ Region.free .any ops listed i = true ∧ i ∈ Region.ready .any ops listed ∧
    ∃ T, Waits ops T i listed ∧ ∀ j, j ∈ E → j ≠ i → listed.getD j true = false → j ∈ T := by
  simp only [okR, Bool.and_eq_true] at h
  obtain ⟨⟨⟨⟨h1, h2⟩, h3⟩, h4⟩, h6⟩ := h
  refine ⟨h1, h2, h3, by simpa using h4, ?_⟩
  rw [Bool.or_eq_true] at h6
  rcases h6 with h6 | h6
  · have h7 : E = [] := by simpa using h6
    refine ⟨[], fun t ht => absurd ht (by simp), fun j hj => ?_⟩
    rw [h7] at hj; cases hj
  · simp only [Bool.and_eq_true] at h6
    refine ⟨_, waitsB_spec h6.1, fun j hj hne hun => ?_⟩
    have := List.all_eq_true.1 h6.2 j hj
    rw [hun] at this
    simpa [hne] using this

/-- what a slot holds -/
def sl (a : Act) (i : Nat) : Value := a.tmps.getD i undef
/-- the i-th operation, so that it comes written out -/
def nthO : List Oper → Nat → Option Oper
  | [], _ => none
  | o :: _, 0 => some o
  | _ :: l, i + 1 => nthO l i
theorem nthO_eq : ∀ (l : List Oper) (i : Nat), l.toArray[i]? = nthO l i
  | [], i => by simp [nthO]
  | o :: l, 0 => by simp [nthO]
  | o :: l, i + 1 => by have := nthO_eq l i; simp at this ⊢; rw [this]; rfl

variable {E : List Nat} {l : List Oper}
/-- (R) an operation that only reads is taken first. -/
theorem stepR (i : Nat) {o : Oper} {fuel : Nat} {listed : Array Bool} {a : Act} {w : World} (hF : ∀ f, F.fn f) (hn : nthO l i = some o) (hk : okR l.toArray E listed i = true)
    (hQ : ∀ v c a w, Q (.panic c) (a.put o.dst v) w → Q (.panic c) a w) (hC : C w)
    (hw : Region.wanted o (yielded l.toArray a.tmps) = true)
    (h : ∃ v, (∀ w, C w → (execOp a.eval o).run P w = .ok (.value v) w) ∧ anyC F n P l.toArray Q C E fuel (listed.setIfInBounds i true) (a.put o.dst v) w) : anyC F n P l.toArray Q C E (fuel + 1) listed a w :=
  have hi : l.toArray[i]? = some o := (nthO_eq l i).trans hn
  let k := okR_spec hk
  let ⟨_, hT, hE⟩ := k.2.2.2.2
  let ⟨v, hy, h⟩ := h
  anyC_first hF k.1 hi (Region.noSelect_spec k.2.1) (hQ v) fuel listed a w hC (Region.free_spec hi k.2.2.1) k.2.2.2.1 hT hE (.inl ⟨hw, hy⟩) h

/-- (S) an operation that is not wanted is passed over. -/
theorem stepS (i : Nat) {o : Oper} {fuel : Nat} {listed : Array Bool} {a : Act} {w : World} (hF : ∀ f, F.fn f) (hn : nthO l i = some o) (hk : okR l.toArray E listed i = true)
    (hQ : ∀ v c a w, Q (.panic c) (a.put o.dst v) w → Q (.panic c) a w) (hC : C w)
    (hw : Region.wanted o (yielded l.toArray a.tmps) = false)
    (h : anyC F n P l.toArray Q C E fuel (listed.setIfInBounds i true) (a.put o.dst undef) w) : anyC F n P l.toArray Q C E (fuel + 1) listed a w :=
  have hi : l.toArray[i]? = some o := (nthO_eq l i).trans hn
  let k := okR_spec hk
  let ⟨_, hT, hE⟩ := k.2.2.2.2
  anyC_first hF k.1 hi (Region.noSelect_spec k.2.1) (hQ undef) fuel listed a w hC (Region.free_spec hi k.2.2.1) k.2.2.2.1 hT hE (.inr ⟨hw, rfl⟩) h

def okE (ops : Array Oper) (listed : Array Bool) (i : Nat) : Bool := noDefer ops && (Region.ready .any ops listed == [i])

/-- (E) the one operation that may come up is carried out; the class C is kept. -/
theorem stepE (i : Nat) {o : Oper} {fuel : Nat} {listed : Array Bool} {a : Act} {w : World} (hF : ∀ f, F.fn f) (hn : nthO l i = some o) (hk : (okE l.toArray listed i && !E.contains i) = true)
    (hw : Region.wanted o (yielded l.toArray a.tmps) = true)
    (h : ∀ K : Act → World → Prop, (∀ a' w', C w' → anyC F n P l.toArray Q C E fuel (listed.setIfInBounds i true) a' w' → K a' w') → o.uponIn F n P a K Q ((execOp a.eval o).run P w)) :
    anyC F n P l.toArray Q C E (fuel + 1) listed a w := by
  have hi : l.toArray[i]? = some o := (nthO_eq l i).trans hn
  simp only [okE, Bool.and_eq_true, beq_iff_eq] at hk
  obtain ⟨⟨hk1, hk2⟩, hk3⟩ := hk
  have hiE : ¬ i ∈ E := by simpa using hk3
  refine ⟨fun h0 => (by rw [hk2] at h0; cases h0), fun j hj => ?_⟩
  rw [hk2] at hj
  obtain rfl : j = i := by simpa using hj
  unfold Go.wpOpIn
  simp only [hi, hw, if_true]
  refine ⟨fun f _ => hF f, ?_⟩
  rw [Oper.semAt_eq _ _ _ (noDefer_spec hk1 hi)]
  exact h _ (fun a' w' hC h' => .inr ⟨hiE, hC, h'⟩)

/-- (X) the one operation that may come up is carried out, whatever becomes of the class C: a new stretch begins behind it. -/
theorem stepX (i : Nat) {o : Oper} {fuel : Nat} {listed : Array Bool} {a : Act} {w : World} (hF : ∀ f, F.fn f) (hn : nthO l i = some o) (hk : okE l.toArray listed i = true)
    (hw : Region.wanted o (yielded l.toArray a.tmps) = true) (hiE : E.contains i = true)
    (h : ∀ K : Act → World → Prop, (∀ a' w', wpAnyIn F n P .any l.toArray Q fuel (listed.setIfInBounds i true) a' w' → K a' w') → o.uponIn F n P a K Q ((execOp a.eval o).run P w)) :
    anyC F n P l.toArray Q C E (fuel + 1) listed a w := by
  have hi : l.toArray[i]? = some o := (nthO_eq l i).trans hn
  simp only [okE, Bool.and_eq_true, beq_iff_eq] at hk
  have hiE : i ∈ E := by simpa using hiE
  refine ⟨fun h0 => (by rw [hk.2] at h0; cases h0), fun j hj => ?_⟩
  rw [hk.2] at hj
  obtain rfl : j = i := by simpa using hj
  unfold Go.wpOpIn
  simp only [hi, hw, if_true]
  refine ⟨fun f _ => hF f, ?_⟩
  rw [Oper.semAt_eq _ _ _ (noDefer_spec hk.1 hi)]
  exact h _ (fun a' w' h' => .inl ⟨hiE, h'⟩)

theorem stepD {fuel : Nat} {listed : Array Bool} {a : Act} {w : World} (hr : (Region.ready .any l.toArray listed).isEmpty = true) (h : Q .normal a w) : anyC F n P l.toArray Q C E fuel listed a w := by
  have hr : Region.ready .any l.toArray listed = [] := by simpa using hr
  cases fuel with
  | zero => exact ⟨hr, h⟩
  | succ f => exact ⟨fun _ => h, by rw [hr]; simp⟩

/-- a stretch of a region under a class C -/
theorem segC (C : World → Prop) (E : List Nat) {fuel : Nat} {listed : Array Bool} {a : Act} {w : World} (h : anyC F n P ops Q C E fuel listed a w) : wpAnyIn F n P .any ops Q fuel listed a w := anyC.sound _ _ _ _ h
theorem regC {id : Nat} {a : Act} {w : World} {l : List Oper} (C : World → Prop) (E : List Nat) (L : Array Bool) (hm : P.follows .mixedOrders = true) (hL : L = Array.replicate l.length false)
    (h : anyC F n P l.toArray Q C E l.length L a w.drew) : (Code.region id l.toArray true).wpIn F n P Q a w :=
  wpIn_region_any hm (anyC.sound _ _ _ _ (by subst hL; simpa using h))
theorem regC' {id : Nat} {a : Act} {w : World} {l : List Oper} (C : World → Prop) (E : List Nat) (L : Array Bool) (hm : P.follows .mixedOrders = true) (hL : L = Array.replicate l.length false)
    (h : anyC Fence.wide 0 P l.toArray Q C E l.length L a w.drew) : (Code.region id l.toArray true).wp P Q a w :=
  wpIn_wide.1 (regC C E L hm hL h)
/-- a place where the ways through a region meet again -/
theorem cutC (S : Act → World → Prop) (fuel' : Nat) (listed' : Array Bool) {fuel : Nat} {listed : Array Bool} {a : Act} {w : World}
    (h2 : ∀ a w, S a w → anyC F n P ops Q C E fuel' listed' a w) (h1 : (∀ a w, S a w → anyC F n P ops Q C E fuel' listed' a w) → anyC F n P ops Q C E fuel listed a w) : anyC F n P ops Q C E fuel listed a w := h1 h2
end
end Go.Proofs.Ytohjinbgbfggcaa.Lim
