/-
  Parts of the proof, in the order in which they build: EnB.
-/
import Derived.Test.YtiacgaplhndlnaaN4
set_option linter.unusedVariables false
set_option linter.unusedSimpArgs false
namespace Go.Proofs.Ytiacgaplhndlnaa

def updB (M : Nat → Bool) (k : Nat) : Nat → Bool := fun c => if c = k then true else M c
def updF (F : Int → Int) (k : Int) (v : Int) : Int → Int := fun x => if x = k then v else F x
theorem updB_same (M : Nat → Bool) (k : Nat) : updB M k k = true := by simp [updB]
theorem updB_ne (M : Nat → Bool) {k c : Nat} (h : c ≠ k) : updB M k c = M c := by simp [updB, h]
theorem updB_mono {M : Nat → Bool} {k c : Nat} (h : M c = true) : updB M k c = true := by unfold updB; split <;> simp_all
theorem updF_same (F : Int → Int) (k v : Int) : updF F k v k = v := by simp [updF]
theorem updF_ne (F : Int → Int) {k c : Int} (v : Int) (h : c ≠ k) : updF F k v c = F c := by simp [updF, h]

/-- plot c comes to a plot of S by plots of A -/
inductive Re (g : Mp) (A S : Nat → Prop) : Nat → Prop
  | base {c : Nat} : A c → S c → Re g A S c
  | step {c k : Nat} : A c → nb g c k → Re g A S k → Re g A S c
theorem Re.in_A {g : Mp} {A S : Nat → Prop} {c : Nat} (h : Re g A S c) : A c := by cases h <;> assumption
theorem Re.cn {g : Mp} {A S : Nat → Prop} {c : Nat} (h : Re g A S c) : ∃ s, S s ∧ Cn g A c s := by
  induction h with
  | @base c ha hs => exact ⟨c, hs, .refl ha⟩
  | step ha hn _ ih => obtain ⟨s, h1, h2⟩ := ih; exact ⟨s, h1, .step ha hn h2⟩
theorem Cn.re {g : Mp} {A S : Nat → Prop} {a b : Nat} (h : Cn g A a b) (hs : S b) : Re g A S a := by
  induction h with
  | refl ha => exact .base ha hs
  | step ha hn _ ih => exact .step ha hn (ih hs)
/-- what the search keeps: M the marks, F from where, rk the order in which cells were met -/
structure BBase (g : Mp) (A Bg : Nat → Prop) (M : Nat → Bool) (F : Int → Int) (rk : Nat → Nat) (t : Nat) (q : List Nat) : Prop where
  ins : ∀ k, M k = true → k < g.n ∧ A k
  reach : ∀ k, M k = true → Re g A Bg k
  start : ∀ k, A k → Bg k → M k = true
  link : ∀ k : Nat, M k = true → (F k = -1 ∧ Bg k) ∨ ∃ p : Nat, F k = p ∧ M p = true ∧ nb g p k ∧ rk p < rk k
  rank : ∀ k, M k = true → rk k < t
  wait : ∀ k ∈ q, M k = true
structure BInv (g : Mp) (A Bg : Nat → Prop) (En : Nat → Bool) (M : Nat → Bool) (F : Int → Int) (rk : Nat → Nat) (t : Nat) (q : List Nat) : Prop extends BBase g A Bg M F rk t q where
  shut : ∀ k, M k = true → k ∉ q → En k = false ∧ ∀ j, A j → nb g k j → M j = true
structure BMid (g : Mp) (A Bg : Nat → Prop) (En : Nat → Bool) (M : Nat → Bool) (F : Int → Int) (rk : Nat → Nat) (t : Nat) (q : List Nat) (c : Nat) (pre : List Int) : Prop extends BBase g A Bg M F rk t q where
  shut : ∀ k, M k = true → k ∉ q → k ≠ c → En k = false ∧ ∀ j, A j → nb g k j → M j = true
  here : M c = true ∧ En c = false
  seen : ∀ j : Nat, (j : Int) ∈ pre → A j → M j = true

section
variable {g : Mp} {A Bg : Nat → Prop} {En : Nat → Bool} {M : Nat → Bool} {F : Int → Int} {rk : Nat → Nat} {t : Nat} {q : List Nat} {c : Nat} {pre : List Int}
theorem BInv.take (h : BInv g A Bg En M F rk t (c :: q)) (he : En c = false) : BMid g A Bg En M F rk t q c [] :=
  ⟨⟨h.ins, h.reach, h.start, h.link, h.rank, fun k hk => h.wait k (by simp [hk])⟩, fun k hk hq hc => h.shut k hk (by simp [hq, hc]), ⟨h.wait c (by simp), he⟩, by simp⟩
/-- the last one is taken -/
theorem BInv.pop (h : BInv g A Bg En M F rk t (q ++ [c])) (he : En c = false) : BMid g A Bg En M F rk t q c [] :=
  ⟨⟨h.ins, h.reach, h.start, h.link, h.rank, fun k hk => h.wait k (by simp [hk])⟩, fun k hk hq hc => h.shut k hk (by simp [hq, hc]), ⟨h.wait c (by simp), he⟩, by simp⟩
theorem BMid.done (h : BMid g A Bg En M F rk t q c (nbrL g.wd g.n c)) : BInv g A Bg En M F rk t q :=
  ⟨h.toBBase, fun k hk hq => by
    by_cases e : k = c
    · subst e; exact ⟨h.here.2, fun j hj hn => h.seen j hn hj⟩
    · exact h.shut k hk hq e⟩
theorem BMid.skip {k : Nat} (h : BMid g A Bg En M F rk t q c pre) (hk : A k → M k = true) : BMid g A Bg En M F rk t q c (pre ++ [(k : Int)]) :=
  ⟨h.toBBase, h.shut, h.here, fun j hj hA => by
    rcases List.mem_append.1 hj with hj | hj
    · exact h.seen j hj hA
    · have e : j = k := by simp at hj; omega
      subst e; exact hk hA⟩
theorem BMid.add {k : Nat} (hg : g.Ok) (h : BMid g A Bg En M F rk t q c pre) (hn : nb g c k) (hA : A k) (hM : M k = false) :
    BMid g A Bg En (updB M k) (updF F k c) (fun x => if x = k then t else rk x) (t + 1) (q ++ [k]) c (pre ++ [(k : Int)]) := by
  have hc := h.ins c h.here.1
  have hkn := nb_lt hg hc.1 hn
  have hck : c ≠ k := fun e => by have := h.here.1; rw [e, hM] at this; cases this
  have hne : ∀ {x}, M x = true → x ≠ k := fun hx e => by rw [e, hM] at hx; cases hx
  have old : ∀ {x}, updB M k x = true → x ≠ k → M x = true := fun hx e => by rwa [updB_ne _ e] at hx
  refine ⟨⟨fun x hx => ?_, fun x hx => ?_, fun x hx hb => updB_mono (h.start x hx hb), fun x hx => ?_, fun x hx => ?_, fun x hx => ?_⟩, fun x hx hq hxc => ?_, ⟨updB_mono h.here.1, h.here.2⟩, fun x hx hAx => ?_⟩
  · by_cases e : x = k
    · subst e; exact ⟨hkn, hA⟩
    · exact h.ins x (old hx e)
  · by_cases e : x = k
    · subst e; exact .step hA (nb_symm hg hc.1 hn) (h.reach c h.here.1)
    · exact h.reach x (old hx e)
  · by_cases e : x = k
    · subst e
      refine .inr ⟨c, updF_same _ _ _, updB_mono h.here.1, hn, ?_⟩
      simp only [if_neg hck]
      exact h.rank c h.here.1
    · rcases h.link x (old hx e) with ⟨h1, h2⟩ | ⟨p, h1, h2, h3, h4⟩
      · exact .inl ⟨by rw [updF_ne _ _ (by omega)]; exact h1, h2⟩
      · refine .inr ⟨p, by rw [updF_ne _ _ (by omega)]; exact h1, updB_mono h2, h3, ?_⟩
        simp only [if_neg e, if_neg (hne h2)]; exact h4
  · by_cases e : x = k
    · rw [if_pos e]; omega
    · rw [if_neg e]; have := h.rank x (old hx e); omega
  · rcases List.mem_append.1 hx with hx | hx
    · exact updB_mono (h.wait x hx)
    · have e : x = k := by simpa using hx
      rw [e]; exact updB_same _ _
  · have e : x ≠ k := fun e => hq (by simp [e])
    have := h.shut x (old hx e) (fun hm => hq (by simp [hm])) hxc
    exact ⟨this.1, fun j hj hn => updB_mono (this.2 j hj hn)⟩
  · rcases List.mem_append.1 hx with hx | hx
    · exact updB_mono (h.seen x hx hAx)
    · have e : x = k := by simp at hx; omega
      rw [e]; exact updB_same _ _

/-- behind the search all is met that comes to a beginning -/
theorem BInv.met (hg : g.Ok) (h : BInv g A Bg En M F rk t []) (hAn : ∀ c, A c → c < g.n) : ∀ c, M c = true ↔ Re g A Bg c := by
  intro c
  refine ⟨h.reach c, fun hr => ?_⟩
  induction hr with
  | base ha hs => exact h.start _ ha hs
  | @step c k ha hn _ ih => exact (h.shut k ih (by simp)).2 c ha (nb_symm hg (hAn c ha) hn)
theorem BInv.none (hg : g.Ok) (h : BInv g A Bg En M F rk t []) (hAn : ∀ c, A c → c < g.n) : ∀ c, Re g A Bg c → En c = false :=
  fun c hr => (h.shut c ((h.met hg hAn c).2 hr) (by simp)).1

/-- the way back from the last cell: L holds what was passed, x is next -/
structure Back (g : Mp) (Bg : Nat → Prop) (M : Nat → Bool) (rk : Nat → Nat) (last : Nat) (L : List Nat) (x : Int) : Prop where
  met : ∀ a ∈ L, M a = true
  falls : L.Pairwise (fun a b => rk b < rk a)
  next : (x = -1 ∧ ∃ l b, L = l ++ [b] ∧ Bg b) ∨ ∃ p : Nat, x = p ∧ M p = true ∧ (∀ a ∈ L, rk p < rk a) ∧ (∀ l b, L = l ++ [b] → nb g p b)
  adj : ∀ l a b r, L = l ++ a :: b :: r → nb g b a
  head : (L = [] ∧ x = last) ∨ ∃ r, L = last :: r
theorem Back.start {last : Nat} (hM : M last = true) : Back g Bg M rk last [] last :=
  ⟨by simp, .nil, .inr ⟨last, rfl, hM, by simp, by intro l b h; simp at h⟩, by intro l a b r h; simp at h, .inl ⟨rfl, rfl⟩⟩
theorem Back.step (h0 : BBase g A Bg M F rk t q) {last : Nat} {L : List Nat} {p : Nat} (h : Back g Bg M rk last L p) : Back g Bg M rk last (L ++ [p]) (F p) := by
  have hp : M p = true ∧ (∀ a ∈ L, rk p < rk a) ∧ (∀ l b, L = l ++ [b] → nb g p b) := by
    rcases h.next with ⟨h1, _⟩ | ⟨p', h1, h2, h3⟩
    · omega
    · have e : p' = p := by omega
      subst e; exact ⟨h2, h3⟩
  refine ⟨fun a ha => ?_, ?_, ?_, fun l a b r e => ?_, ?_⟩
  · rcases List.mem_append.1 ha with ha | ha
    · exact h.met a ha
    · have e : a = p := by simpa using ha
      rw [e]; exact hp.1
  · refine List.pairwise_append.2 ⟨h.falls, by simp, fun a ha b hb => ?_⟩
    have e : b = p := by simpa using hb
    rw [e]; exact hp.2.1 a ha
  · rcases h0.link p hp.1 with ⟨h1, h2⟩ | ⟨p', h1, h2, h3, h4⟩
    · exact .inl ⟨h1, L, p, rfl, h2⟩
    · refine .inr ⟨p', h1, h2, fun a ha => ?_, fun l b e => ?_⟩
      · rcases List.mem_append.1 ha with ha | ha
        · have := hp.2.1 a ha; omega
        · have e : a = p := by simpa using ha
          rw [e]; exact h4
      · have e2 : p = b := by have := List.append_inj' e rfl; simpa using this.2
        rw [← e2]; exact h3
  · rcases List.eq_nil_or_concat r with rfl | ⟨r', z, rfl⟩
    · have e1 : L ++ [p] = (l ++ [a]) ++ [b] := by rw [e]; simp
      have e2 := List.append_inj' e1 rfl
      have e3 : p = b := by simpa using e2.2
      rw [← e3]; exact hp.2.2 l a e2.1
    · have e1 : L ++ [p] = (l ++ a :: b :: r') ++ [z] := by rw [e]; simp
      have e2 := List.append_inj' e1 rfl
      exact h.adj l a b r' e2.1
  · rcases h.head with ⟨h1, h2⟩ | ⟨r, h1⟩
    · refine .inr ⟨[], ?_⟩
      have e : p = last := by omega
      rw [h1, e]; rfl
    · exact .inr ⟨r ++ [p], by rw [h1]; rfl⟩

/-- a way from a beginning to an end -/
structure IsWay (g : Mp) (A Bg : Nat → Prop) (En : Nat → Bool) (L : List Nat) : Prop where
  cells : ∀ a ∈ L, A a
  once : L.Nodup
  adj : ∀ l a b r, L = l ++ a :: b :: r → nb g a b
  first : ∃ b r, L = b :: r ∧ Bg b
  last : ∃ l b, L = l ++ [b] ∧ En b = true
theorem Back.way (h0 : BBase g A Bg M F rk t q) {last : Nat} {L : List Nat} (h : Back g Bg M rk last L (-1)) (he : En last = true) : IsWay g A Bg En L.reverse := by
  have hn : ∃ l b, L = l ++ [b] ∧ Bg b := by
    rcases h.next with ⟨_, h1⟩ | ⟨p, h1, _⟩
    · exact h1
    · omega
  obtain ⟨l, b, e, hb⟩ := hn
  refine ⟨fun a ha => (h0.ins a (h.met a (by simpa using ha))).2, ?_, fun l a b r e => ?_, ⟨b, l.reverse, by rw [e]; simp, hb⟩, ?_⟩
  · exact List.pairwise_reverse.2 (h.falls.imp (fun hab e => by rw [e] at hab; omega))
  · have e1 : L = r.reverse ++ b :: a :: l.reverse := by
      have := congrArg List.reverse e
      simpa using this
    exact h.adj _ _ _ _ e1
  · rcases h.head with ⟨h1, _⟩ | ⟨r, h1⟩
    · rw [h1] at e; simp at e
    · exact ⟨r.reverse, last, by rw [h1]; simp, he⟩
end

/-- the state behind k rounds of path's first loop: cells that st names are met, from nowhere, and wait -/
def met1 (st : Nat → Bool) (k : Nat) : Nat → Bool := fun c => decide (c < k) && st c
def from1 (st : Nat → Bool) (k : Nat) : Int → Int := fun x => if 0 ≤ x ∧ x < k ∧ st x.toNat = true then -1 else 0
def queue1 (st : Nat → Bool) (k : Nat) : List Nat := (List.range k).filter st
theorem met1_zero (st : Nat → Bool) : met1 st 0 = fun _ => false := by funext c; simp [met1]
theorem from1_zero (st : Nat → Bool) : from1 st 0 = fun _ => 0 := by
  funext x; unfold from1; rw [if_neg]; rintro ⟨h1, h2, _⟩; simp at h2; omega
theorem met1_add {st : Nat → Bool} {k : Nat} (h : st k = true) : updB (met1 st k) k = met1 st (k + 1) := by
  funext c
  by_cases e : c = k
  · subst e; rw [updB_same]; simp [met1, h]
  · rw [updB_ne _ e]; simp only [met1]
    by_cases h2 : c < k
    · simp [h2, show c < k + 1 from by omega]
    · simp [h2, show ¬ c < k + 1 from by omega]
theorem met1_skip {st : Nat → Bool} {k : Nat} (h : st k = false) : met1 st k = met1 st (k + 1) := by
  funext c
  simp only [met1]
  by_cases e : c = k
  · subst e; simp [h]
  · by_cases h2 : c < k
    · simp [h2, show c < k + 1 from by omega]
    · simp [h2, show ¬ c < k + 1 from by omega]
theorem from1_add {st : Nat → Bool} {k : Nat} (h : st k = true) : (fun x => if x = (k : Int) then -1 else from1 st k x) = from1 st (k + 1) := by
  funext x
  by_cases e : x = k
  · subst e; simp [from1, h]; omega
  · simp only [if_neg e, from1]
    by_cases h2 : 0 ≤ x ∧ x < k ∧ st x.toNat = true
    · rw [if_pos h2, if_pos ⟨h2.1, by omega, h2.2.2⟩]
    · rw [if_neg h2, if_neg (fun h3 => h2 ⟨h3.1, by omega, h3.2.2⟩)]
theorem from1_skip {st : Nat → Bool} {k : Nat} (h : st k = false) : from1 st k = from1 st (k + 1) := by
  funext x
  simp only [from1]
  by_cases h2 : 0 ≤ x ∧ x < k ∧ st x.toNat = true
  · rw [if_pos h2, if_pos ⟨h2.1, by omega, h2.2.2⟩]
  · rw [if_neg h2, if_neg (fun h3 => h2 ⟨h3.1, ?_, h3.2.2⟩)]
    have := h3.2.1
    have hne : x ≠ k := fun e => by subst e; rw [Int.toNat_natCast, h] at h3; exact absurd h3.2.2 (by simp)
    omega
theorem queue1_add {st : Nat → Bool} {k : Nat} (h : st k = true) : queue1 st (k + 1) = queue1 st k ++ [k] := by simp [queue1, List.range_succ, h]
theorem queue1_skip {st : Nat → Bool} {k : Nat} (h : st k = false) : queue1 st (k + 1) = queue1 st k := by simp [queue1, List.range_succ, h]
theorem queue1_length (st : Nat → Bool) (k : Nat) : (queue1 st k).length ≤ k := by
  have := List.length_filter_le st (List.range k)
  simpa [queue1] using this
theorem BInv.begin {g : Mp} {A Bg : Nat → Prop} {En : Nat → Bool} {st : Nat → Bool} (h1 : ∀ k, k < g.n → (st k = true ↔ A k ∧ Bg k)) (h2 : ∀ k, A k → k < g.n) :
    BInv g A Bg En (met1 st g.n) (from1 st g.n) (fun _ => 0) 1 (queue1 st g.n) := by
  have hm : ∀ k, met1 st g.n k = true → k < g.n ∧ st k = true := fun k hk => by simpa [met1] using hk
  refine ⟨⟨fun k hk => ?_, fun k hk => ?_, fun k hA hB => ?_, fun k hk => ?_, fun k hk => by omega, fun k hk => ?_⟩, fun k hk hq => absurd ?_ hq⟩
  · obtain ⟨h3, h4⟩ := hm k hk; exact ⟨h3, ((h1 k h3).1 h4).1⟩
  · obtain ⟨h3, h4⟩ := hm k hk; exact .base ((h1 k h3).1 h4).1 ((h1 k h3).1 h4).2
  · have := h2 k hA; simp [met1, this, (h1 k this).2 ⟨hA, hB⟩]
  · obtain ⟨h3, h4⟩ := hm k hk
    refine .inl ⟨?_, ((h1 k h3).1 h4).2⟩
    unfold from1
    rw [if_pos ⟨by omega, by omega, by simpa using h4⟩]
  · have : k < g.n ∧ st k = true := by simpa [queue1] using hk
    simp [met1, this.1, this.2]
  · obtain ⟨h3, h4⟩ := hm k hk; simp [queue1, h3, h4]
def upd (f : Nat → Int) (k : Nat) (v : Int) : Nat → Int := fun c => if c = k then v else f c
theorem upd_same (f : Nat → Int) (k : Nat) (v : Int) : upd f k v k = v := by simp [upd]
theorem upd_ne (f : Nat → Int) {k c : Nat} (v : Int) (h : c ≠ k) : upd f k v c = f c := by simp [upd, h]
/-- the measure of the search -/
def unmet (M : Nat → Bool) : Nat → Int := fun k => if M k = true then 0 else 1
theorem unmet_upd {M : Nat → Bool} (k : Nat) : unmet (updB M k) = upd (unmet M) k 0 := by
  funext c
  by_cases e : c = k
  · subst e; simp [unmet, updB_same, upd_same]
  · rw [upd_ne _ _ e]; simp [unmet, updB_ne _ e]

end Go.Proofs.Ytiacgaplhndlnaa
