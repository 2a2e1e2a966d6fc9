/-
  Parts of the proof, in the order in which they build: EnB, EnC, EnD, EnE.
-/
import Derived.Test.YtiacgaplhndlnaaF4
set_option linter.unusedVariables false
set_option linter.unusedSimpArgs false
/-
  Ways in plain words: what the search of enclave's method out keeps, and what it finds (as ridge's path: the texts are alike).
-/
namespace Go.Proofs.Ytiacgaplhndlnaa

def updB (M : Nat → Bool) (k : Nat) : Nat → Bool := fun c => if c = k then true else M c
def updF (F : Int → Int) (k : Int) (v : Int) : Int → Int := fun x => if x = k then v else F x
theorem updB_same (M : Nat → Bool) (k : Nat) : updB M k k = true := by simp [updB]
theorem updB_ne (M : Nat → Bool) {k c : Nat} (h : c ≠ k) : updB M k c = M c := by simp [updB, h]
theorem updB_mono {M : Nat → Bool} {k c : Nat} (h : M c = true) : updB M k c = true := by unfold updB; split <;> simp_all
theorem updF_same (F : Int → Int) (k v : Int) : updF F k v k = v := by simp [updF]
theorem updF_ne (F : Int → Int) {k c : Int} (v : Int) (h : c ≠ k) : updF F k v c = F c := by simp [updF, h]

/-- plot c comes to a plot of S by plots of A -/
inductive Re (g : Mp) (A S : Nat → Prop) : Nat → Prop
  | base {c : Nat} : A c → S c → Re g A S c
  | step {c k : Nat} : A c → nb g c k → Re g A S k → Re g A S c
theorem Re.in_A {g : Mp} {A S : Nat → Prop} {c : Nat} (h : Re g A S c) : A c := by cases h <;> assumption
theorem Re.cn {g : Mp} {A S : Nat → Prop} {c : Nat} (h : Re g A S c) : ∃ s, S s ∧ Cn g A c s := by
  induction h with
  | @base c ha hs => exact ⟨c, hs, .refl ha⟩
  | step ha hn _ ih => obtain ⟨s, h1, h2⟩ := ih; exact ⟨s, h1, .step ha hn h2⟩
theorem Cn.re {g : Mp} {A S : Nat → Prop} {a b : Nat} (h : Cn g A a b) (hs : S b) : Re g A S a := by
  induction h with
  | refl ha => exact .base ha hs
  | step ha hn _ ih => exact .step ha hn (ih hs)
/-- what the search keeps: M the marks, F from where, rk the order in which cells were met -/
structure BBase (g : Mp) (A Bg : Nat → Prop) (M : Nat → Bool) (F : Int → Int) (rk : Nat → Nat) (t : Nat) (q : List Nat) : Prop where
  ins : ∀ k, M k = true → k < g.n ∧ A k
  reach : ∀ k, M k = true → Re g A Bg k
  start : ∀ k, A k → Bg k → M k = true
  link : ∀ k : Nat, M k = true → (F k = -1 ∧ Bg k) ∨ ∃ p : Nat, F k = p ∧ M p = true ∧ nb g p k ∧ rk p < rk k
  rank : ∀ k, M k = true → rk k < t
  wait : ∀ k ∈ q, M k = true
structure BInv (g : Mp) (A Bg : Nat → Prop) (En : Nat → Bool) (M : Nat → Bool) (F : Int → Int) (rk : Nat → Nat) (t : Nat) (q : List Nat) : Prop extends BBase g A Bg M F rk t q where
  shut : ∀ k, M k = true → k ∉ q → En k = false ∧ ∀ j, A j → nb g k j → M j = true
structure BMid (g : Mp) (A Bg : Nat → Prop) (En : Nat → Bool) (M : Nat → Bool) (F : Int → Int) (rk : Nat → Nat) (t : Nat) (q : List Nat) (c : Nat) (pre : List Int) : Prop extends BBase g A Bg M F rk t q where
  shut : ∀ k, M k = true → k ∉ q → k ≠ c → En k = false ∧ ∀ j, A j → nb g k j → M j = true
  here : M c = true ∧ En c = false
  seen : ∀ j : Nat, (j : Int) ∈ pre → A j → M j = true

section
variable {g : Mp} {A Bg : Nat → Prop} {En : Nat → Bool} {M : Nat → Bool} {F : Int → Int} {rk : Nat → Nat} {t : Nat} {q : List Nat} {c : Nat} {pre : List Int}
theorem BInv.take (h : BInv g A Bg En M F rk t (c :: q)) (he : En c = false) : BMid g A Bg En M F rk t q c [] :=
  ⟨⟨h.ins, h.reach, h.start, h.link, h.rank, fun k hk => h.wait k (by simp [hk])⟩, fun k hk hq hc => h.shut k hk (by simp [hq, hc]), ⟨h.wait c (by simp), he⟩, by simp⟩
/-- the last one is taken -/
theorem BInv.pop (h : BInv g A Bg En M F rk t (q ++ [c])) (he : En c = false) : BMid g A Bg En M F rk t q c [] :=
  ⟨⟨h.ins, h.reach, h.start, h.link, h.rank, fun k hk => h.wait k (by simp [hk])⟩, fun k hk hq hc => h.shut k hk (by simp [hq, hc]), ⟨h.wait c (by simp), he⟩, by simp⟩
theorem BMid.done (h : BMid g A Bg En M F rk t q c (nbrL g.wd g.n c)) : BInv g A Bg En M F rk t q :=
  ⟨h.toBBase, fun k hk hq => by
    by_cases e : k = c
    · subst e; exact ⟨h.here.2, fun j hj hn => h.seen j hn hj⟩
    · exact h.shut k hk hq e⟩
theorem BMid.skip {k : Nat} (h : BMid g A Bg En M F rk t q c pre) (hk : A k → M k = true) : BMid g A Bg En M F rk t q c (pre ++ [(k : Int)]) :=
  ⟨h.toBBase, h.shut, h.here, fun j hj hA => by
    rcases List.mem_append.1 hj with hj | hj
    · exact h.seen j hj hA
    · have e : j = k := by simp at hj; omega
      subst e; exact hk hA⟩
theorem BMid.add {k : Nat} (hg : g.Ok) (h : BMid g A Bg En M F rk t q c pre) (hn : nb g c k) (hA : A k) (hM : M k = false) :
    BMid g A Bg En (updB M k) (updF F k c) (fun x => if x = k then t else rk x) (t + 1) (q ++ [k]) c (pre ++ [(k : Int)]) := by
  have hc := h.ins c h.here.1
  have hkn := nb_lt hg hc.1 hn
  have hck : c ≠ k := fun e => by have := h.here.1; rw [e, hM] at this; cases this
  have hne : ∀ {x}, M x = true → x ≠ k := fun hx e => by rw [e, hM] at hx; cases hx
  have old : ∀ {x}, updB M k x = true → x ≠ k → M x = true := fun hx e => by rwa [updB_ne _ e] at hx
  refine ⟨⟨fun x hx => ?_, fun x hx => ?_, fun x hx hb => updB_mono (h.start x hx hb), fun x hx => ?_, fun x hx => ?_, fun x hx => ?_⟩, fun x hx hq hxc => ?_, ⟨updB_mono h.here.1, h.here.2⟩, fun x hx hAx => ?_⟩
  · by_cases e : x = k
    · subst e; exact ⟨hkn, hA⟩
    · exact h.ins x (old hx e)
  · by_cases e : x = k
    · subst e; exact .step hA (nb_symm hg hc.1 hn) (h.reach c h.here.1)
    · exact h.reach x (old hx e)
  · by_cases e : x = k
    · subst e
      refine .inr ⟨c, updF_same _ _ _, updB_mono h.here.1, hn, ?_⟩
      simp only [if_neg hck]
      exact h.rank c h.here.1
    · rcases h.link x (old hx e) with ⟨h1, h2⟩ | ⟨p, h1, h2, h3, h4⟩
      · exact .inl ⟨by rw [updF_ne _ _ (by omega)]; exact h1, h2⟩
      · refine .inr ⟨p, by rw [updF_ne _ _ (by omega)]; exact h1, updB_mono h2, h3, ?_⟩
        simp only [if_neg e, if_neg (hne h2)]; exact h4
  · by_cases e : x = k
    · rw [if_pos e]; omega
    · rw [if_neg e]; have := h.rank x (old hx e); omega
  · rcases List.mem_append.1 hx with hx | hx
    · exact updB_mono (h.wait x hx)
    · have e : x = k := by simpa using hx
      rw [e]; exact updB_same _ _
  · have e : x ≠ k := fun e => hq (by simp [e])
    have := h.shut x (old hx e) (fun hm => hq (by simp [hm])) hxc
    exact ⟨this.1, fun j hj hn => updB_mono (this.2 j hj hn)⟩
  · rcases List.mem_append.1 hx with hx | hx
    · exact updB_mono (h.seen x hx hAx)
    · have e : x = k := by simp at hx; omega
      rw [e]; exact updB_same _ _

/-- behind the search all is met that comes to a beginning -/
theorem BInv.met (hg : g.Ok) (h : BInv g A Bg En M F rk t []) (hAn : ∀ c, A c → c < g.n) : ∀ c, M c = true ↔ Re g A Bg c := by
  intro c
  refine ⟨h.reach c, fun hr => ?_⟩
  induction hr with
  | base ha hs => exact h.start _ ha hs
  | @step c k ha hn _ ih => exact (h.shut k ih (by simp)).2 c ha (nb_symm hg (hAn c ha) hn)
theorem BInv.none (hg : g.Ok) (h : BInv g A Bg En M F rk t []) (hAn : ∀ c, A c → c < g.n) : ∀ c, Re g A Bg c → En c = false :=
  fun c hr => (h.shut c ((h.met hg hAn c).2 hr) (by simp)).1

/-- the way back from the last cell: L holds what was passed, x is next -/
structure Back (g : Mp) (Bg : Nat → Prop) (M : Nat → Bool) (rk : Nat → Nat) (last : Nat) (L : List Nat) (x : Int) : Prop where
  met : ∀ a ∈ L, M a = true
  falls : L.Pairwise (fun a b => rk b < rk a)
  next : (x = -1 ∧ ∃ l b, L = l ++ [b] ∧ Bg b) ∨ ∃ p : Nat, x = p ∧ M p = true ∧ (∀ a ∈ L, rk p < rk a) ∧ (∀ l b, L = l ++ [b] → nb g p b)
  adj : ∀ l a b r, L = l ++ a :: b :: r → nb g b a
  head : (L = [] ∧ x = last) ∨ ∃ r, L = last :: r
theorem Back.start {last : Nat} (hM : M last = true) : Back g Bg M rk last [] last :=
  ⟨by simp, .nil, .inr ⟨last, rfl, hM, by simp, by intro l b h; simp at h⟩, by intro l a b r h; simp at h, .inl ⟨rfl, rfl⟩⟩
theorem Back.step (h0 : BBase g A Bg M F rk t q) {last : Nat} {L : List Nat} {p : Nat} (h : Back g Bg M rk last L p) : Back g Bg M rk last (L ++ [p]) (F p) := by
  have hp : M p = true ∧ (∀ a ∈ L, rk p < rk a) ∧ (∀ l b, L = l ++ [b] → nb g p b) := by
    rcases h.next with ⟨h1, _⟩ | ⟨p', h1, h2, h3⟩
    · omega
    · have e : p' = p := by omega
      subst e; exact ⟨h2, h3⟩
  refine ⟨fun a ha => ?_, ?_, ?_, fun l a b r e => ?_, ?_⟩
  · rcases List.mem_append.1 ha with ha | ha
    · exact h.met a ha
    · have e : a = p := by simpa using ha
      rw [e]; exact hp.1
  · refine List.pairwise_append.2 ⟨h.falls, by simp, fun a ha b hb => ?_⟩
    have e : b = p := by simpa using hb
    rw [e]; exact hp.2.1 a ha
  · rcases h0.link p hp.1 with ⟨h1, h2⟩ | ⟨p', h1, h2, h3, h4⟩
    · exact .inl ⟨h1, L, p, rfl, h2⟩
    · refine .inr ⟨p', h1, h2, fun a ha => ?_, fun l b e => ?_⟩
      · rcases List.mem_append.1 ha with ha | ha
        · have := hp.2.1 a ha; omega
        · have e : a = p := by simpa using ha
          rw [e]; exact h4
      · have e2 : p = b := by have := List.append_inj' e rfl; simpa using this.2
        rw [← e2]; exact h3
  · rcases List.eq_nil_or_concat r with rfl | ⟨r', z, rfl⟩
    · have e1 : L ++ [p] = (l ++ [a]) ++ [b] := by rw [e]; simp
      have e2 := List.append_inj' e1 rfl
      have e3 : p = b := by simpa using e2.2
      rw [← e3]; exact hp.2.2 l a e2.1
    · have e1 : L ++ [p] = (l ++ a :: b :: r') ++ [z] := by rw [e]; simp
      have e2 := List.append_inj' e1 rfl
      exact h.adj l a b r' e2.1
  · rcases h.head with ⟨h1, h2⟩ | ⟨r, h1⟩
    · refine .inr ⟨[], ?_⟩
      have e : p = last := by omega
      rw [h1, e]; rfl
    · exact .inr ⟨r ++ [p], by rw [h1]; rfl⟩

/-- a way from a beginning to an end -/
structure IsWay (g : Mp) (A Bg : Nat → Prop) (En : Nat → Bool) (L : List Nat) : Prop where
  cells : ∀ a ∈ L, A a
  once : L.Nodup
  adj : ∀ l a b r, L = l ++ a :: b :: r → nb g a b
  first : ∃ b r, L = b :: r ∧ Bg b
  last : ∃ l b, L = l ++ [b] ∧ En b = true
theorem Back.way (h0 : BBase g A Bg M F rk t q) {last : Nat} {L : List Nat} (h : Back g Bg M rk last L (-1)) (he : En last = true) : IsWay g A Bg En L.reverse := by
  have hn : ∃ l b, L = l ++ [b] ∧ Bg b := by
    rcases h.next with ⟨_, h1⟩ | ⟨p, h1, _⟩
    · exact h1
    · omega
  obtain ⟨l, b, e, hb⟩ := hn
  refine ⟨fun a ha => (h0.ins a (h.met a (by simpa using ha))).2, ?_, fun l a b r e => ?_, ⟨b, l.reverse, by rw [e]; simp, hb⟩, ?_⟩
  · exact List.pairwise_reverse.2 (h.falls.imp (fun hab e => by rw [e] at hab; omega))
  · have e1 : L = r.reverse ++ b :: a :: l.reverse := by
      have := congrArg List.reverse e
      simpa using this
    exact h.adj _ _ _ _ e1
  · rcases h.head with ⟨h1, _⟩ | ⟨r, h1⟩
    · rw [h1] at e; simp at e
    · exact ⟨r.reverse, last, by rw [h1]; simp, he⟩
end

/-- the state behind k rounds of path's first loop: cells that st names are met, from nowhere, and wait -/
def met1 (st : Nat → Bool) (k : Nat) : Nat → Bool := fun c => decide (c < k) && st c
def from1 (st : Nat → Bool) (k : Nat) : Int → Int := fun x => if 0 ≤ x ∧ x < k ∧ st x.toNat = true then -1 else 0
def queue1 (st : Nat → Bool) (k : Nat) : List Nat := (List.range k).filter st
theorem met1_zero (st : Nat → Bool) : met1 st 0 = fun _ => false := by funext c; simp [met1]
theorem from1_zero (st : Nat → Bool) : from1 st 0 = fun _ => 0 := by
  funext x; unfold from1; rw [if_neg]; rintro ⟨h1, h2, _⟩; simp at h2; omega
theorem met1_add {st : Nat → Bool} {k : Nat} (h : st k = true) : updB (met1 st k) k = met1 st (k + 1) := by
  funext c
  by_cases e : c = k
  · subst e; rw [updB_same]; simp [met1, h]
  · rw [updB_ne _ e]; simp only [met1]
    by_cases h2 : c < k
    · simp [h2, show c < k + 1 from by omega]
    · simp [h2, show ¬ c < k + 1 from by omega]
theorem met1_skip {st : Nat → Bool} {k : Nat} (h : st k = false) : met1 st k = met1 st (k + 1) := by
  funext c
  simp only [met1]
  by_cases e : c = k
  · subst e; simp [h]
  · by_cases h2 : c < k
    · simp [h2, show c < k + 1 from by omega]
    · simp [h2, show ¬ c < k + 1 from by omega]
theorem from1_add {st : Nat → Bool} {k : Nat} (h : st k = true) : (fun x => if x = (k : Int) then -1 else from1 st k x) = from1 st (k + 1) := by
  funext x
  by_cases e : x = k
  · subst e; simp [from1, h]; omega
  · simp only [if_neg e, from1]
    by_cases h2 : 0 ≤ x ∧ x < k ∧ st x.toNat = true
    · rw [if_pos h2, if_pos ⟨h2.1, by omega, h2.2.2⟩]
    · rw [if_neg h2, if_neg (fun h3 => h2 ⟨h3.1, by omega, h3.2.2⟩)]
theorem from1_skip {st : Nat → Bool} {k : Nat} (h : st k = false) : from1 st k = from1 st (k + 1) := by
  funext x
  simp only [from1]
  by_cases h2 : 0 ≤ x ∧ x < k ∧ st x.toNat = true
  · rw [if_pos h2, if_pos ⟨h2.1, by omega, h2.2.2⟩]
  · rw [if_neg h2, if_neg (fun h3 => h2 ⟨h3.1, ?_, h3.2.2⟩)]
    have := h3.2.1
    have hne : x ≠ k := fun e => by subst e; rw [Int.toNat_natCast, h] at h3; exact absurd h3.2.2 (by simp)
    omega
theorem queue1_add {st : Nat → Bool} {k : Nat} (h : st k = true) : queue1 st (k + 1) = queue1 st k ++ [k] := by simp [queue1, List.range_succ, h]
theorem queue1_skip {st : Nat → Bool} {k : Nat} (h : st k = false) : queue1 st (k + 1) = queue1 st k := by simp [queue1, List.range_succ, h]
theorem queue1_length (st : Nat → Bool) (k : Nat) : (queue1 st k).length ≤ k := by
  have := List.length_filter_le st (List.range k)
  simpa [queue1] using this
theorem BInv.begin {g : Mp} {A Bg : Nat → Prop} {En : Nat → Bool} {st : Nat → Bool} (h1 : ∀ k, k < g.n → (st k = true ↔ A k ∧ Bg k)) (h2 : ∀ k, A k → k < g.n) :
    BInv g A Bg En (met1 st g.n) (from1 st g.n) (fun _ => 0) 1 (queue1 st g.n) := by
  have hm : ∀ k, met1 st g.n k = true → k < g.n ∧ st k = true := fun k hk => by simpa [met1] using hk
  refine ⟨⟨fun k hk => ?_, fun k hk => ?_, fun k hA hB => ?_, fun k hk => ?_, fun k hk => by omega, fun k hk => ?_⟩, fun k hk hq => absurd ?_ hq⟩
  · obtain ⟨h3, h4⟩ := hm k hk; exact ⟨h3, ((h1 k h3).1 h4).1⟩
  · obtain ⟨h3, h4⟩ := hm k hk; exact .base ((h1 k h3).1 h4).1 ((h1 k h3).1 h4).2
  · have := h2 k hA; simp [met1, this, (h1 k this).2 ⟨hA, hB⟩]
  · obtain ⟨h3, h4⟩ := hm k hk
    refine .inl ⟨?_, ((h1 k h3).1 h4).2⟩
    unfold from1
    rw [if_pos ⟨by omega, by omega, by simpa using h4⟩]
  · have : k < g.n ∧ st k = true := by simpa [queue1] using hk
    simp [met1, this.1, this.2]
  · obtain ⟨h3, h4⟩ := hm k hk; simp [queue1, h3, h4]
def upd (f : Nat → Int) (k : Nat) (v : Int) : Nat → Int := fun c => if c = k then v else f c
theorem upd_same (f : Nat → Int) (k : Nat) (v : Int) : upd f k v k = v := by simp [upd]
theorem upd_ne (f : Nat → Int) {k c : Nat} (v : Int) (h : c ≠ k) : upd f k v c = f c := by simp [upd, h]
/-- the measure of the search -/
def unmet (M : Nat → Bool) : Nat → Int := fun k => if M k = true then 0 else 1
theorem unmet_upd {M : Nat → Bool} (k : Nat) : unmet (updB M k) = upd (unmet M) k 0 := by
  funext c
  by_cases e : c = k
  · subst e; simp [unmet, updB_same, upd_same]
  · rw [upd_ne _ _ e]; simp [unmet, updB_ne _ e]

end Go.Proofs.Ytiacgaplhndlnaa
/-
  Maps in plain words: how the regions are numbered.
-/
namespace Go.Proofs.Ytiacgaplhndlnaa

/-- the numbers R of the plots' regions (-1: none yet), behind the plots ahead of first; c regions are numbered -/
structure Lab (m : Mp) (R : Nat → Int) (first c : Nat) : Prop where
  rng : ∀ p, p < m.n → R p = -1 ∨ (0 ≤ R p ∧ R p < c)
  same : ∀ p q, p < m.n → q < m.n → R p ≠ -1 → (R p = R q ↔ Sm m p q)
  all : ∀ p, p < first → p < m.n → R p ≠ -1
  used : ∀ j : Nat, j < c → ∃ q, q < first ∧ q < m.n ∧ R q = j
  grow : ∀ p, p < m.n → R p ≠ -1 → ∀ j : Nat, (j : Int) < R p → ∃ q, q < p ∧ R q = j
/-- .. while region c is filled from plot first; R0 is what was there, q waits -/
structure FBase (m : Mp) (R0 R : Nat → Int) (first c : Nat) (q : List Nat) : Prop where
  old : ∀ p, p < m.n → R0 p ≠ -1 → R p = R0 p
  new : ∀ p, p < m.n → R0 p = -1 → R p = -1 ∨ (R p = c ∧ Sm m first p)
  here : R first = c
  wait : ∀ k ∈ q, k < m.n ∧ R k = c
structure Fill (m : Mp) (R0 R : Nat → Int) (first c : Nat) (q : List Nat) : Prop extends FBase m R0 R first c q where
  shut : ∀ k, k < m.n → R k = c → k ∉ q → ∀ j, nb m k j → m.own j = m.own k → R j = c
structure FMid (m : Mp) (R0 R : Nat → Int) (first c : Nat) (q : List Nat) (at_ : Nat) (pre : List Int) : Prop extends FBase m R0 R first c q where
  shut : ∀ k, k < m.n → R k = c → k ∉ q → k ≠ at_ → ∀ j, nb m k j → m.own j = m.own k → R j = c
  cur : at_ < m.n ∧ R at_ = c
  seen : ∀ j : Nat, (j : Int) ∈ pre → m.own j = m.own at_ → R j = c
section
variable {m : Mp} {R0 R : Nat → Int} {first c a : Nat} {q : List Nat} {pre : List Int}
theorem Lab.begin (m : Mp) : Lab m (fun _ => -1) 0 0 :=
  ⟨fun _ _ => .inl rfl, fun _ _ _ _ h => absurd rfl h, fun _ h => absurd h (Nat.not_lt_zero _), fun _ h => absurd h (Nat.not_lt_zero _), fun _ _ h => absurd rfl h⟩
theorem Lab.skip (h : Lab m R first c) (hf : R first ≠ -1) : Lab m R (first + 1) c :=
  ⟨h.rng, h.same, fun p hp hpn => by
    by_cases e : p = first
    · rw [e]; exact hf
    · exact h.all p (by omega) hpn, fun j hj => by obtain ⟨q, h1, h2⟩ := h.used j hj; exact ⟨q, by omega, h2⟩, h.grow⟩
theorem Fill.begin (h : Lab m R first c) (hf : first < m.n) (hR : R first = -1) : Fill m R (upd R first c) first c [first] := by
  have hne : ∀ p, p < m.n → R p ≠ -1 → p ≠ first := fun p _ h1 e => h1 (by rw [e]; exact hR)
  refine ⟨⟨fun p hp h1 => upd_ne R _ (hne p hp h1), fun p hp h1 => ?_, upd_same _ _ _, fun k hk => ?_⟩, fun k hk h1 h2 => ?_⟩
  · by_cases e : p = first
    · rw [e]; exact .inr ⟨upd_same _ _ _, Sm.refl hf⟩
    · rw [upd_ne R _ e]; exact .inl h1
  · rw [List.mem_singleton] at hk; rw [hk]; exact ⟨hf, upd_same _ _ _⟩
  · have e : k ≠ first := fun e => h2 (by simp [e])
    rw [upd_ne R _ e] at h1
    rcases h.rng k hk with h3 | h3 <;> omega
theorem Fill.pop (h : Fill m R0 R first c (q ++ [a])) : FMid m R0 R first c q a [] :=
  ⟨⟨h.old, h.new, h.here, fun k hk => h.wait k (by simp [hk])⟩, fun k hk h1 h2 h3 => h.shut k hk h1 (by simp [h2, h3]), h.wait a (by simp), fun j hj => by cases hj⟩
theorem FMid.done (h : FMid m R0 R first c q a (nbrL m.wd m.n a)) : Fill m R0 R first c q :=
  ⟨h.toFBase, fun k hk h1 h2 j hn ho => by
    by_cases e : k = a
    · subst e; exact h.seen j hn ho
    · exact h.shut k hk h1 h2 e j hn ho⟩
/-- a neighbour of another owner, or one that is numbered -/
theorem FMid.skip {k : Nat} (h : FMid m R0 R first c q a pre) (hk : m.own k = m.own a → R k = c) : FMid m R0 R first c q a (pre ++ [(k : Int)]) :=
  ⟨h.toFBase, h.shut, h.cur, fun j hj ho => by
    rcases List.mem_append.1 hj with hj | hj
    · exact h.seen j hj ho
    · have e : j = k := by simp at hj; omega
      subst e; exact hk ho⟩
theorem FMid.sm (h0 : Lab m R0 first c) (h : FMid m R0 R first c q a pre) : Sm m first a ∧ R0 a = -1 := by
  have h1 : R0 a = -1 := by
    rcases h0.rng a h.cur.1 with h1 | h1
    · exact h1
    · have := h.old a h.cur.1 (by omega)
      have := h.cur.2
      omega
  refine ⟨?_, h1⟩
  rcases h.new a h.cur.1 h1 with h2 | h2
  · have := h.cur.2; omega
  · exact h2.2
theorem Sm.snoc {p k : Nat} (h : Sm m p a) (hn : nb m a k) (hk : k < m.n) (ho : m.own k = m.own a) : Sm m p k :=
  Cn.snoc h hn ⟨hk, by rw [ho]; exact h.own⟩
/-- a neighbour of the same owner that is numbered is of this region -/
theorem FMid.old_same (hm : m.Ok) (h0 : Lab m R0 first c) (hf : R0 first = -1) (h : FMid m R0 R first c q a pre) {k : Nat} (hn : nb m a k) (ho : m.own k = m.own a) (hk : R k ≠ -1) : R k = c := by
  have hkn := nb_lt hm h.cur.1 hn
  obtain ⟨hs, -⟩ := h.sm h0
  have hsk := hs.snoc hn hkn ho
  rcases h0.rng k hkn with h1 | h1
  · rcases h.new k hkn h1 with h2 | h2
    · exact absurd h2 hk
    · exact h2.1
  · have := (h0.same k first hkn hs.lt.1 (by omega)).2 (hsk.symm hm)
    omega
theorem FMid.add (hm : m.Ok) (h0 : Lab m R0 first c) (h : FMid m R0 R first c q a pre) {k : Nat} (hn : nb m a k) (ho : m.own k = m.own a) (hk : R k = -1) : FMid m R0 (upd R k c) first c (q ++ [k]) a (pre ++ [(k : Int)]) := by
  have hkn := nb_lt hm h.cur.1 hn
  obtain ⟨hs, -⟩ := h.sm h0
  have hsk := hs.snoc hn hkn ho
  have hne : ∀ {x}, R x = c → x ≠ k := fun {x} hx e => by rw [e, hk] at hx; omega
  have keep : ∀ {x}, R x = c → upd R k c x = c := fun {x} hx => by rw [upd_ne R _ (hne hx)]; exact hx
  refine ⟨⟨fun p hp h1 => ?_, fun p hp h1 => ?_, keep h.here, fun x hx => ?_⟩, fun x hx h1 h2 h3 j hnj hoj => ?_, ⟨h.cur.1, keep h.cur.2⟩, fun j hj hoj => ?_⟩
  · have e := h.old p hp h1
    by_cases ep : p = k
    · rw [ep] at e h1; rw [hk] at e; exact absurd e.symm h1
    · rw [upd_ne R _ ep]; exact e
  · by_cases ep : p = k
    · rw [ep]; exact .inr ⟨upd_same _ _ _, hsk⟩
    · rw [upd_ne R _ ep]; exact h.new p hp h1
  · rcases List.mem_append.1 hx with hx | hx
    · exact ⟨(h.wait x hx).1, keep (h.wait x hx).2⟩
    · rw [List.mem_singleton] at hx; rw [hx]; exact ⟨hkn, upd_same _ _ _⟩
  · have e : x ≠ k := fun e => h2 (by simp [e])
    rw [upd_ne R _ e] at h1
    exact keep (h.shut x hx h1 (fun hm => h2 (by simp [hm])) h3 j hnj hoj)
  · rcases List.mem_append.1 hj with hj | hj
    · exact keep (h.seen j hj hoj)
    · have e : j = k := by simp at hj; omega
      rw [e]; exact upd_same _ _ _
/-- the region is whole -/
theorem Fill.done (hm : m.Ok) (h0 : Lab m R0 first c) (hf : first < m.n) (h : Fill m R0 R first c []) : Lab m R (first + 1) (c + 1) := by
  have old0 : ∀ p, p < m.n → R p ≠ -1 → R0 p ≠ -1 ∨ (R p = c ∧ Sm m first p) := fun p hp h1 => by
    by_cases e : R0 p = -1
    · rcases h.new p hp e with h2 | h2
      · exact absurd h2 h1
      · exact .inr h2
    · exact .inl e
  have lt0 : ∀ p, p < m.n → R0 p ≠ -1 → 0 ≤ R p ∧ R p < c := fun p hp h1 => by
    rw [h.old p hp h1]
    rcases h0.rng p hp with h2 | h2
    · exact absurd h2 h1
    · exact h2
  have whole : ∀ x y, Cn m (OfO m (m.own first)) x y → R x = c → R y = c := by
    intro x y hxy
    induction hxy with
    | refl _ => exact fun h => h
    | @step x y z hx hn hyz ih =>
      intro hc
      exact ih (h.shut x hx.1 hc (by simp) y hn (by rw [(Cn.left hyz).2, hx.2]))
  have all : ∀ p, Sm m first p → R p = c := fun p hp => whole _ _ hp h.here
  refine ⟨fun p hp => ?_, fun p q hp hq h1 => ?_, fun p hp hpn => ?_, fun j hj => ?_, fun p hp h1 j hj => ?_⟩
  · by_cases e : R p = -1
    · exact .inl e
    · rcases old0 p hp e with h2 | h2
      · have := lt0 p hp h2; exact .inr ⟨this.1, by omega⟩
      · right; omega
  · rcases old0 p hp h1 with h2 | ⟨h2, h3⟩
    · have hl := lt0 p hp h2
      rw [h.old p hp h2] at hl ⊢
      by_cases e : R0 q = -1
      · constructor
        · intro he
          rcases h.new q hq e with h4 | h4 <;> omega
        · intro hs
          have := (h0.same p q hp hq h2).2 hs
          rw [e] at this; exact absurd this h2
      · rw [h.old q hq e]; exact h0.same p q hp hq h2
    · rw [h2]
      constructor
      · intro he
        have hq1 : R q ≠ -1 := by omega
        rcases old0 q hq hq1 with h4 | h4
        · have := lt0 q hq h4; omega
        · exact (h3.symm hm).trans h4.2
      · intro hs; exact (all q (h3.trans hs)).symm
  · by_cases e : p = first
    · rw [e, h.here]; omega
    · have h1 := h0.all p (by omega) hpn
      rw [h.old p hpn h1]; exact h1
  · by_cases e : j = c
    · exact ⟨first, by omega, hf, by rw [e]; exact h.here⟩
    · obtain ⟨q, h1, h2, h3⟩ := h0.used j (by omega)
      exact ⟨q, by omega, h2, by rw [h.old q h2 (by omega)]; exact h3⟩
  · rcases old0 p hp h1 with h2 | ⟨h2, h3⟩
    · rw [h.old p hp h2] at hj
      obtain ⟨q, h4, h5⟩ := h0.grow p hp h2 j hj
      exact ⟨q, h4, by rw [h.old q (by omega) (by omega)]; exact h5⟩
    · have hpf : first ≤ p := by
        rcases Nat.lt_or_ge p first with h4 | h4
        · have h5 := h0.all p h4 hp
          have := lt0 p hp h5
          omega
        · exact h4
      obtain ⟨q, h4, h5, h6⟩ := h0.used j (by omega)
      exact ⟨q, by omega, by rw [h.old q h5 (by omega)]; exact h6⟩
/-- all plots are numbered -/
theorem Lab.reg (h : Lab m R m.n c) : IsReg m (fun p => (R p).toNat) ∧ IsMany m (fun p => (R p).toNat) c ∧ ∀ p, p < m.n → 0 ≤ R p := by
  have h0 : ∀ p, p < m.n → 0 ≤ R p ∧ R p < c := fun p hp => by
    rcases h.rng p hp with h1 | h1
    · exact absurd h1 (h.all p hp hp)
    · exact h1
  refine ⟨⟨fun p q hp hq => ?_, fun p hp j hj => ?_⟩, ⟨fun p hp => ?_, fun j hj => ?_⟩, fun p hp => (h0 p hp).1⟩
  · have h1 := h0 p hp
    have h2 := h0 q hq
    rw [← h.same p q hp hq (by omega)]
    constructor
    · intro e; have e : (R p).toNat = (R q).toNat := e; omega
    · intro e; show (R p).toNat = (R q).toNat; rw [e]
  · have h1 := h0 p hp
    have hj : j < (R p).toNat := hj
    obtain ⟨q, h2, h3⟩ := h.grow p hp (by omega) j (by omega)
    exact ⟨q, h2, by show (R q).toNat = j; omega⟩
  · have := h0 p hp; show (R p).toNat < c; omega
  · obtain ⟨q, -, h2, h3⟩ := h.used j hj
    exact ⟨q, h2, by show (R q).toNat = j; omega⟩
end
end Go.Proofs.Ytiacgaplhndlnaa
/-
  Maps in plain words: ways out of regions.
-/
namespace Go.Proofs.Ytiacgaplhndlnaa

section
variable {m : Mp} {r : Nat → Nat} {i j : Nat} {M : Nat → Bool} {F : Int → Int} {rk : Nat → Nat} {t : Nat}
theorem Free.lt {k : Nat} (h : Free m r j k) : k < m.n := h.1
/-- the search that ends without a plot of the rim finds that there is no way -/
theorem out_none (hm : m.Ok) (h : BInv m (Free m r j) (fun k => r k = i) (rimB m) M F rk t []) : ¬ OutW m r i j := by
  rintro ⟨p, q, hp, hc, hq⟩
  have h1 := h.none hm (fun _ h => h.1) q ((hc.symm hm fun _ h => h.1).re hp)
  rw [hq] at h1; cases h1
/-- a list is a way out of region i without region j -/
structure Leads (m : Mp) (r : Nat → Nat) (i j : Nat) (L : List Nat) : Prop where
  lt : ∀ p ∈ L, p < m.n
  free : ∀ p ∈ L, r p ≠ j
  adj : ∀ l a b s, L = l ++ a :: b :: s → nb m a b
  first : ∃ b s, L = b :: s ∧ r b = i
  last : ∃ l b, L = l ++ [b] ∧ rimB m b = true
theorem Leads.ne {L : List Nat} (h : Leads m r i j L) : L ≠ [] := by
  obtain ⟨b, s, e, -⟩ := h.first
  rw [e]; simp
theorem way_leads {L : List Nat} (h : IsWay m (Free m r j) (fun k => r k = i) (rimB m) L) : Leads m r i j L :=
  ⟨fun p hp => (h.cells p hp).1, fun p hp => (h.cells p hp).2, h.adj, h.first, h.last⟩
/-- along a list one comes from its first plot to its last one -/
theorem adj_cn {A : Nat → Prop} : ∀ {L : List Nat} {a b : Nat} {l s : List Nat}, L = a :: s → L = l ++ [b] → (∀ p ∈ L, A p) → (∀ l a b s, L = l ++ a :: b :: s → nb m a b) → Cn m A a b
  | [], a, b, l, s, h1, _, _, _ => by cases h1
  | [x], a, b, l, s, h1, h2, hA, _ => by
    cases h1
    have e : b = x := by
      have := congrArg List.getLast? h2
      simpa using this.symm
    rw [e]; exact .refl (hA x (by simp))
  | x :: y :: L, a, b, l, s, h1, h2, hA, hadj => by
    cases h1
    have hl : l ≠ [] := fun e => by rw [e] at h2; simp at h2
    obtain ⟨z, l', rfl⟩ := List.exists_cons_of_ne_nil hl
    have h3 : y :: L = l' ++ [b] := by
      have := List.cons.inj h2; exact this.2
    exact .step (hA x (by simp)) (hadj [] x y L rfl) (adj_cn (s := L) rfl h3 (fun p hp => hA p (by simp [hp])) (fun l2 a2 b2 s2 e => hadj (x :: l2) a2 b2 s2 (by rw [e]; rfl)))
/-- a way out is one -/
theorem Leads.out {L : List Nat} (h : Leads m r i j L) : OutW m r i j := by
  obtain ⟨b, s, e1, h1⟩ := h.first
  obtain ⟨l, c, e2, h2⟩ := h.last
  exact ⟨b, c, h1, adj_cn e1 e2 (fun p hp => ⟨h.lt p hp, h.free p hp⟩) h.adj, h2⟩
end
end Go.Proofs.Ytiacgaplhndlnaa
/-
  Maps in plain words: how the reference numbers regions, and what it fills in from outside.
-/
namespace Go.Proofs.Ytiacgaplhndlnaa

/-! The least plot that each plot comes to. -/
/-- f has, for each plot, a plot of its region that is no greater -/
def FInv (m : Mp) (f : Nat → Nat) : Prop := ∀ a : Nat, a < m.n → f a ≤ a ∧ Sm m a (f a)
/-- nothing changes any more -/
def FFix (m : Mp) (f : Nat → Nat) : Prop := ∀ a b, a < m.n → b < m.n → nb m a b → m.own a = m.own b → ¬ f b < f a
section
variable {m : Mp} {f : Nat → Nat} {a b p q : Nat}
theorem FInv.begin (m : Mp) : FInv m (fun p => p) := fun _ ha => ⟨Nat.le_refl _, Sm.refl ha⟩
theorem FInv.take (h : FInv m f) (ha : a < m.n) (hb : b < m.n) (hn : nb m a b) (ho : m.own a = m.own b) (hlt : f b < f a) : FInv m (fun x => if x = a then f b else f x) := fun x hx => by
  show (if x = a then f b else f x) ≤ x ∧ Sm m x (if x = a then f b else f x)
  by_cases e : x = a
  · subst e
    rw [if_pos rfl]
    have h1 := h x ha
    have h2 := h b hb
    exact ⟨by omega, Sm.trans (Cn.step ⟨ha, rfl⟩ hn (.refl ⟨hb, ho.symm⟩)) h2.2⟩
  · rw [if_neg e]; exact h x hx
theorem FFix.eq (hm : m.Ok) (hf : FFix m f) (h : Sm m p q) : f p = f q := by
  unfold Sm at h
  have : ∀ x y, Cn m (OfO m (m.own p)) x y → f x = f y := by
    intro x y hxy
    induction hxy with
    | refl _ => rfl
    | @step x y z hx hn hyz ih =>
      have hy := Cn.left hyz
      have h1 := hf x y hx.1 hy.1 hn (by rw [hx.2, hy.2])
      have h2 := hf y x hy.1 hx.1 (nb_symm hm hx.1 hn) (by rw [hx.2, hy.2])
      omega
  exact this _ _ h
theorem FFix.first (hm : m.Ok) (hf : FFix m f) (h : FInv m f) (hp : p < m.n) : f (f p) = f p := (hf.eq hm (h p hp).2).symm
theorem FFix.same (hm : m.Ok) (hf : FFix m f) (h : FInv m f) (hp : p < m.n) (hq : q < m.n) : f p = f q ↔ Sm m p q :=
  ⟨fun e => (h p hp).2.trans (by rw [e]; exact ((h q hq).2).symm hm), hf.eq hm⟩
/-- how many of the first t plots are the least ones of their regions -/
def num (f : Nat → Nat) : Nat → Nat
  | 0 => 0
  | t + 1 => num f t + if f t = t then 1 else 0
theorem num_add {t : Nat} (h : f t = t) : num f (t + 1) = num f t + 1 := by rw [num, if_pos h]
theorem num_skip {t : Nat} (h : f t ≠ t) : num f (t + 1) = num f t := by rw [num, if_neg h]; rfl
theorem num_mono {s : Nat} : ∀ {t : Nat}, s ≤ t → num f s ≤ num f t
  | 0, h => by rw [show s = 0 by omega]; exact Nat.le_refl _
  | t + 1, h => by
    by_cases e : s = t + 1
    · rw [e]; exact Nat.le_refl _
    · have ih := num_mono (show s ≤ t by omega)
      rw [num]; omega
theorem num_lt {s t : Nat} (h : f s = s) (hs : s < t) : num f s < num f t := by
  have h1 := num_add h
  have h2 : num f (s + 1) ≤ num f t := num_mono (by omega)
  omega
theorem num_ex : ∀ {t j : Nat}, j < num f t → ∃ s, s < t ∧ f s = s ∧ num f s = j
  | 0, j, h => absurd h (Nat.not_lt_zero _)
  | t + 1, j, h => by
    by_cases e : f t = t
    · rw [num_add e] at h
      by_cases e2 : j = num f t
      · exact ⟨t, by omega, e, e2.symm⟩
      · obtain ⟨s, h1, h2⟩ := num_ex (show j < num f t by omega)
        exact ⟨s, by omega, h2⟩
    · rw [num_skip e] at h
      obtain ⟨s, h1, h2⟩ := num_ex h
      exact ⟨s, by omega, h2⟩
theorem num_le : ∀ t, num f t ≤ t
  | 0 => Nat.le_refl _
  | t + 1 => by have := num_le t; rw [num]; split <;> omega
/-- numbered by their first plots -/
theorem num_reg (hm : m.Ok) (hf : FFix m f) (h : FInv m f) : IsReg m (fun p => num f (f p)) ∧ IsMany m (fun p => num f (f p)) (num f m.n) := by
  have inj : ∀ p q, p < m.n → q < m.n → num f (f p) = num f (f q) → f p = f q := fun p q hp hq e => by
    rcases Nat.lt_trichotomy (f p) (f q) with h1 | h1 | h1
    · have := num_lt (hf.first hm h hp) h1; omega
    · exact h1
    · have := num_lt (hf.first hm h hq) h1; omega
  refine ⟨⟨fun p q hp hq => ?_, fun p hp j hj => ?_⟩, ⟨fun p hp => ?_, fun j hj => ?_⟩⟩
  · rw [← hf.same hm h hp hq]
    exact ⟨inj p q hp hq, fun e => by show num f (f p) = num f (f q); rw [e]⟩
  · obtain ⟨s, h1, h2, h3⟩ := num_ex hj
    have := (h p hp).1
    exact ⟨s, by omega, by show num f (f s) = j; rw [h2]; exact h3⟩
  · have h1 := (h p hp).1
    exact num_lt (hf.first hm h hp) (by omega)
  · obtain ⟨s, h1, h2, h3⟩ := num_ex hj
    exact ⟨s, h1, by show num f (f s) = j; rw [h2]; exact h3⟩
end
/-! What one comes to from outside. -/
/-- the plots that are filled in from the rim, without region j -/
structure Fil (m : Mp) (r : Nat → Nat) (j : Nat) (B : Nat → Bool) : Prop where
  sound : ∀ p, p < m.n → B p = true → ∃ q, Cn m (Free m r j) p q ∧ rimB m q = true
  start : ∀ p, p < m.n → rimB m p = true → r p ≠ j → B p = true
section
variable {m : Mp} {r : Nat → Nat} {i j a b : Nat} {B : Nat → Bool}
theorem Fil.begin : Fil m r j (fun p => rimB m p && decide (r p ≠ j)) :=
  ⟨fun p hp h => by
    rw [Bool.and_eq_true, decide_eq_true_eq] at h
    exact ⟨p, .refl ⟨hp, h.2⟩, h.1⟩, fun p _ h1 h2 => by rw [Bool.and_eq_true, decide_eq_true_eq]; exact ⟨h1, h2⟩⟩
theorem Fil.add (hm : m.Ok) (h : Fil m r j B) (ha : a < m.n) (hb : b < m.n) (hB : B a = true) (hn : nb m a b) (hj : r b ≠ j) : Fil m r j (fun x => if x = b then true else B x) := by
  refine ⟨fun p hp h1 => ?_, fun p hp h1 h2 => ?_⟩
  · have h1 : (if p = b then true else B p) = true := h1
    by_cases e : p = b
    · subst e
      obtain ⟨q, h2, h3⟩ := h.sound a ha hB
      exact ⟨q, .step ⟨hb, hj⟩ (nb_symm hm ha hn) h2, h3⟩
    · rw [if_neg e] at h1; exact h.sound p hp h1
  · show (if p = b then true else B p) = true
    by_cases e : p = b
    · rw [if_pos e]
    · rw [if_neg e]; exact h.start p hp h1 h2
/-- when nothing changes any more, all is filled in -/
theorem Fil.done (hm : m.Ok) (h : Fil m r j B) (hx : ∀ a b, a < m.n → b < m.n → B a = true → nb m a b → r b ≠ j → B b = true) {p : Nat} (hp : p < m.n) : B p = true ↔ ∃ q, Cn m (Free m r j) p q ∧ rimB m q = true := by
  refine ⟨h.sound p hp, ?_⟩
  rintro ⟨q, hc, hq⟩
  have : ∀ x y, Cn m (Free m r j) x y → B y = true → B x = true := by
    intro x y hxy
    induction hxy with
    | refl _ => exact fun h => h
    | @step x y z hx1 hn hyz ih =>
      intro hz
      have hy := Cn.left hyz
      exact hx y x hy.1 hx1.1 (ih hz) (nb_symm hm hx1.1 hn) hx1.2
  exact this p q hc (h.start q (Cn.right hc).1 hq (Cn.right hc).2)
theorem Fil.out (hm : m.Ok) (h : Fil m r j B) (hx : ∀ a b, a < m.n → b < m.n → B a = true → nb m a b → r b ≠ j → B b = true) : OutW m r i j ↔ ∃ p, p < m.n ∧ r p = i ∧ B p = true := by
  constructor
  · rintro ⟨p, q, h1, h2, h3⟩
    have hp := (Cn.left h2).1
    exact ⟨p, hp, h1, (h.done hm hx hp).2 ⟨q, h2, h3⟩⟩
  · rintro ⟨p, hp, h1, h2⟩
    obtain ⟨q, h3, h4⟩ := (h.done hm hx hp).1 h2
    exact ⟨p, q, h1, h3, h4⟩
end
/-! The deepest of those that a region lies within. -/
section
variable {m : Mp} {r : Nat → Nat} {i T : Nat}
theorem In.deeper (hm : m.Ok) (hT : ∀ k, k < T → ∃ p, p < m.n ∧ r p = k) {a k : Nat} (ha : a < T) (h : In m r a k) (hk : k < T) : inCount m r k T < inCount m r a T := by
  -- what k lies within a lies within, too; and k itself
  have hkk : ¬ In m r k k := fun h => h.1 rfl
  have sub : ∀ x, In m r k x → In m r a x := fun x hx => h.trans hx fun e => by subst e; exact In.asymm hm (hT a ha) h hx
  have : ∀ t, inCount m r k t + (if k < t then 1 else 0) ≤ inCount m r a t := by
    intro t
    induction t with
    | zero => simp [inCount]
    | succ t ih =>
      by_cases e : k = t
      · subst e
        rw [inCount_add h, inCount_skip hkk, if_pos (by omega)]
        rw [if_neg (by omega)] at ih
        omega
      · by_cases h1 : In m r k t
        · rw [inCount_add h1, inCount_add (sub t h1)]
          by_cases h2 : k < t
          · rw [if_pos h2] at ih; rw [if_pos (by omega)]; omega
          · rw [if_neg h2] at ih; rw [if_neg (by omega)]; omega
        · rw [inCount_skip h1]
          have h3 : inCount m r a t ≤ inCount m r a (t + 1) := by
            by_cases h4 : In m r a t
            · rw [inCount_add h4]; omega
            · rw [inCount_skip h4]; exact Nat.le_refl _
          by_cases h2 : k < t
          · rw [if_pos h2] at ih; rw [if_pos (by omega)]; omega
          · rw [if_neg h2] at ih; rw [if_neg (by omega)]; omega
  have := this T
  rw [if_pos hk] at this
  omega
/-- the reference's loop: the first of the deepest ones -/
def Dp (m : Mp) (r : Nat → Nat) (T i t : Nat) (x : Int) : Prop :=
  (x = -1 ∧ ∀ k, k < t → ¬ In m r i k) ∨ ∃ a : Nat, x = (a : Int) ∧ a < t ∧ In m r i a ∧ ∀ k, k < t → In m r i k → inCount m r k T ≤ inCount m r a T
theorem Dp.ar (hm : m.Ok) (hr : IsReg m r) (hT : ∀ k, k < T → ∃ p, p < m.n ∧ r p = k) (hi : i < T) {x : Int} (h : Dp m r T i T x) : IsAr m r i T x := by
  rcases h with h | ⟨a, h1, h2, h3, h4⟩
  · exact .inl h
  · refine .inr ⟨a, h1, h2, h3, fun k hk hka hik => ?_⟩
    rcases In.tree hm hr (hT i hi) h3 hik (fun e => hka e.symm) with h5 | h5
    · exact h5
    · have h6 := In.deeper hm hT hk h5 h2
      have h7 := h4 k hk hik
      omega
theorem IsAr.unique {x y : Int} (hm : m.Ok) (hT : ∀ k, k < T → ∃ p, p < m.n ∧ r p = k) (h : IsAr m r i T x) (h' : IsAr m r i T y) : x = y := by
  rcases h with ⟨h1, h2⟩ | ⟨a, h1, h2, h3, h4⟩
  · rcases h' with ⟨h5, -⟩ | ⟨b, -, h6, h7, -⟩
    · rw [h1, h5]
    · exact absurd h7 (h2 b h6)
  · rcases h' with ⟨-, h6⟩ | ⟨b, h5, h6, h7, h8⟩
    · exact absurd h3 (h6 a h2)
    · by_cases e : a = b
      · rw [h1, h5, e]
      · exact absurd (h8 a h2 e h3) (In.asymm hm (hT a h2) (h4 b h6 (fun e' => e e'.symm) h7))
end
end Go.Proofs.Ytiacgaplhndlnaa
