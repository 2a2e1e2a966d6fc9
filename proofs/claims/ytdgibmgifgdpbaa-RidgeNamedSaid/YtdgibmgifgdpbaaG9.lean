/-
  Parts of the proof, in the order in which they build: Map, Bfs, Closures, Land.
-/
import Derived.Test.YtdgibmgifgdpbaaRows
import Derived.Maps.Own
import Derived.Maps.OwnSet
import Derived.Maps.Views
import Derived.Test.YtdgibmgifgdpbaaG2
import Derived.Test.YtdgibmgifgdpbaaG7
import Derived.Test.YtdgibmgifgdpbaaG8
set_option linter.unusedVariables false
set_option linter.unusedSimpArgs false
/-
  Maps from numbers to numbers, and to truth values, in plain words.
-/
namespace Go.Proofs.Ytdgibmgifgdpbaa
open Go Go.RowKit
namespace Lim

/-- block b is a map of at most n entries that has F -/
def MapI (w : World) (b n : Nat) (F : Int → Int) : Prop := ∃ D : DataW Unit, w.ownsMap Try.prog 3 (plainElem Try.prog 3) b n D ∧ ∀ c : Int, (Lit.int .i64 c).wf = true → D.atKey (.int .i64 c) (.lit (.int .i64 0)) = .lit (.int .i64 (F c))
theorem MapI.made (w : World) : MapI (w.alloc (.map #[] 0)) w.heap.size 0 (fun _ => 0) := ⟨.map [], World.ownsMap_made _ _ _ _, fun c _ => by simp [DataW.atKey]⟩
theorem MapI.more {w : World} {b n : Nat} {F : Int → Int} (h : MapI w b n F) : MapI w b (n + 1) F := ⟨h.choose, h.choose_spec.1.mono (Nat.le_succ n), h.choose_spec.2⟩
theorem MapI.kept {w w' : World} {b n : Nat} {F : Int → Int} {row : Option Nat} (h : MapI w b n F) (hg : w.grownBy w' row) (hne : some b ≠ row) : MapI w' b n F := ⟨h.choose, h.choose_spec.1.kept hg hne, h.choose_spec.2⟩
theorem MapI.lt {w : World} {b n : Nat} {F : Int → Int} (h : MapI w b n F) : b < w.heap.size := h.choose_spec.1.lt
theorem MapI.same {w w' : World} {b n : Nat} {F : Int → Int} (h : MapI w b n F) (hs : w'.heap[b]? = w.heap[b]?) : MapI w' b n F := by
  obtain ⟨D, ⟨es, clock, hb, r⟩, h2⟩ := h
  exact ⟨D, ⟨es, clock, hs.trans hb, r⟩, h2⟩
theorem MapI.lookup {w : World} {b n : Nat} {F : Int → Int} (h : MapI w b n F) {c : Int} (hc : (Lit.int .i64 c).wf = true) :
    (Instr.lookup 151 (.map (some b)) (.int .i64 c) false).run Try.prog w = .ok (.int .i64 (F c)) w := by
  obtain ⟨D, hD, hF⟩ := h
  obtain ⟨v, hrun, hat, _⟩ := hD.lookup_int (Go.Maps.int_keyed Try.underlying3) Try.underlying151 Try.underlying3 (by kernel_rfl) (Go.Maps.keyOf_int_mk Try.underlying3 hc)
  rw [hF c hc] at hat
  simp at hat
  rw [hrun, hat]
theorem MapI.update {w : World} {b n : Nat} {F : Int → Int} (h : MapI w b n F) (hn : n < maxLen) {c v : Int} (hc : (Lit.int .i64 c).wf = true) (hv : (Lit.int .i64 v).wf = true) :
    ∃ w', (Instr.mapUpdate 151 (.map (some b)) (.int .i64 c) (.int .i64 v)).run Try.prog w = .ok () w' ∧ MapI w' b (n + 1) (fun x => if x = c then v else F x) ∧ w.grownBy w' (some b) := by
  obtain ⟨D, hD, hF⟩ := h
  obtain ⟨w', hrun, hD', hg⟩ := hD.update (Go.Maps.int_keyed Try.underlying3) Try.underlying151 hn (Go.Maps.keyOf_int_mk Try.underlying3 hc) (plainElem_int Try.underlying3 hv)
  refine ⟨w', hrun, ⟨_, hD', fun x hx => ?_⟩, hg⟩
  by_cases e : x = c
  · subst e
    rw [Go.Maps.atKey_put_same (k := .int .i64 x) hD.isMap trivial]; simp
  · rw [Go.Maps.atKey_put_other (by simpa using e), hF x hx]; simp [e]

end Lim
end Go.Proofs.Ytdgibmgifgdpbaa
/-
  Ways in plain words: what the search of ridge's method path keeps, and what it finds.
-/
namespace Go.Proofs.Ytdgibmgifgdpbaa

def updB (M : Nat → Bool) (k : Nat) : Nat → Bool := fun c => if c = k then true else M c
def updF (F : Int → Int) (k : Int) (v : Int) : Int → Int := fun x => if x = k then v else F x
theorem updB_same (M : Nat → Bool) (k : Nat) : updB M k k = true := by simp [updB]
theorem updB_ne (M : Nat → Bool) {k c : Nat} (h : c ≠ k) : updB M k c = M c := by simp [updB, h]
theorem updB_mono {M : Nat → Bool} {k c : Nat} (h : M c = true) : updB M k c = true := by unfold updB; split <;> simp_all
theorem updF_same (F : Int → Int) (k v : Int) : updF F k v k = v := by simp [updF]
theorem updF_ne (F : Int → Int) {k c : Int} (v : Int) (h : c ≠ k) : updF F k v c = F c := by simp [updF, h]

/-- what the search keeps: M the marks, F from where, rk the order in which cells were met -/
structure BBase (g : Gd) (A Bg : Nat → Prop) (M : Nat → Bool) (F : Int → Int) (rk : Nat → Nat) (t : Nat) (q : List Nat) : Prop where
  ins : ∀ k, M k = true → k < g.n ∧ A k
  reach : ∀ k, M k = true → Re g A Bg k
  start : ∀ k, A k → Bg k → M k = true
  link : ∀ k : Nat, M k = true → (F k = -1 ∧ Bg k) ∨ ∃ p : Nat, F k = p ∧ M p = true ∧ nb g p k ∧ rk p < rk k
  rank : ∀ k, M k = true → rk k < t
  wait : ∀ k ∈ q, M k = true
structure BInv (g : Gd) (A Bg : Nat → Prop) (En : Nat → Bool) (M : Nat → Bool) (F : Int → Int) (rk : Nat → Nat) (t : Nat) (q : List Nat) : Prop extends BBase g A Bg M F rk t q where
  shut : ∀ k, M k = true → k ∉ q → En k = false ∧ ∀ j, A j → nb g k j → M j = true
structure BMid (g : Gd) (A Bg : Nat → Prop) (En : Nat → Bool) (M : Nat → Bool) (F : Int → Int) (rk : Nat → Nat) (t : Nat) (q : List Nat) (c : Nat) (pre : List Int) : Prop extends BBase g A Bg M F rk t q where
  shut : ∀ k, M k = true → k ∉ q → k ≠ c → En k = false ∧ ∀ j, A j → nb g k j → M j = true
  here : M c = true ∧ En c = false
  seen : ∀ j : Nat, (j : Int) ∈ pre → A j → M j = true

section
variable {g : Gd} {A Bg : Nat → Prop} {En : Nat → Bool} {M : Nat → Bool} {F : Int → Int} {rk : Nat → Nat} {t : Nat} {q : List Nat} {c : Nat} {pre : List Int}
theorem BInv.take (h : BInv g A Bg En M F rk t (c :: q)) (he : En c = false) : BMid g A Bg En M F rk t q c [] :=
  ⟨⟨h.ins, h.reach, h.start, h.link, h.rank, fun k hk => h.wait k (by simp [hk])⟩, fun k hk hq hc => h.shut k hk (by simp [hq, hc]), ⟨h.wait c (by simp), he⟩, by simp⟩
theorem BMid.done (h : BMid g A Bg En M F rk t q c (nbrL g.wd g.n c)) : BInv g A Bg En M F rk t q :=
  ⟨h.toBBase, fun k hk hq => by
    by_cases e : k = c
    · subst e; exact ⟨h.here.2, fun j hj hn => h.seen j hn hj⟩
    · exact h.shut k hk hq e⟩
theorem BMid.skip {k : Nat} (h : BMid g A Bg En M F rk t q c pre) (hk : A k → M k = true) : BMid g A Bg En M F rk t q c (pre ++ [(k : Int)]) :=
  ⟨h.toBBase, h.shut, h.here, fun j hj hA => by
    rcases List.mem_append.1 hj with hj | hj
    · exact h.seen j hj hA
    · have e : j = k := by simp at hj; omega
      subst e; exact hk hA⟩
theorem BMid.add {k : Nat} (hg : g.Ok) (h : BMid g A Bg En M F rk t q c pre) (hn : nb g c k) (hA : A k) (hM : M k = false) :
    BMid g A Bg En (updB M k) (updF F k c) (fun x => if x = k then t else rk x) (t + 1) (q ++ [k]) c (pre ++ [(k : Int)]) := by
  have hc := h.ins c h.here.1
  have hkn := nb_lt hg hc.1 hn
  have hck : c ≠ k := fun e => by have := h.here.1; rw [e, hM] at this; cases this
  have hne : ∀ {x}, M x = true → x ≠ k := fun hx e => by rw [e, hM] at hx; cases hx
  have old : ∀ {x}, updB M k x = true → x ≠ k → M x = true := fun hx e => by rwa [updB_ne _ e] at hx
  refine ⟨⟨fun x hx => ?_, fun x hx => ?_, fun x hx hb => updB_mono (h.start x hx hb), fun x hx => ?_, fun x hx => ?_, fun x hx => ?_⟩, fun x hx hq hxc => ?_, ⟨updB_mono h.here.1, h.here.2⟩, fun x hx hAx => ?_⟩
  · by_cases e : x = k
    · subst e; exact ⟨hkn, hA⟩
    · exact h.ins x (old hx e)
  · by_cases e : x = k
    · subst e; exact .step hA (nb_symm hg hc.1 hn) (h.reach c h.here.1)
    · exact h.reach x (old hx e)
  · by_cases e : x = k
    · subst e
      refine .inr ⟨c, updF_same _ _ _, updB_mono h.here.1, hn, ?_⟩
      simp only [if_neg hck, if_pos rfl]
      exact h.rank c h.here.1
    · rcases h.link x (old hx e) with ⟨h1, h2⟩ | ⟨p, h1, h2, h3, h4⟩
      · exact .inl ⟨by rw [updF_ne _ _ (by omega)]; exact h1, h2⟩
      · refine .inr ⟨p, by rw [updF_ne _ _ (by omega)]; exact h1, updB_mono h2, h3, ?_⟩
        simp only [if_neg e, if_neg (hne h2)]; exact h4
  · by_cases e : x = k
    · rw [if_pos e]; omega
    · rw [if_neg e]; have := h.rank x (old hx e); omega
  · rcases List.mem_append.1 hx with hx | hx
    · exact updB_mono (h.wait x hx)
    · have e : x = k := by simpa using hx
      rw [e]; exact updB_same _ _
  · have e : x ≠ k := fun e => hq (by simp [e])
    have := h.shut x (old hx e) (fun hm => hq (by simp [hm])) hxc
    exact ⟨this.1, fun j hj hn => updB_mono (this.2 j hj hn)⟩
  · rcases List.mem_append.1 hx with hx | hx
    · exact updB_mono (h.seen x hx hAx)
    · have e : x = k := by simp at hx; omega
      rw [e]; exact updB_same _ _

/-- behind the search all is met that comes to a beginning -/
theorem BInv.met (hg : g.Ok) (h : BInv g A Bg En M F rk t []) (hAn : ∀ c, A c → c < g.n) : ∀ c, M c = true ↔ Re g A Bg c := by
  intro c
  refine ⟨h.reach c, fun hr => ?_⟩
  induction hr with
  | base ha hs => exact h.start _ ha hs
  | @step c k ha hn _ ih => exact (h.shut k ih (by simp)).2 c ha (nb_symm hg (hAn c ha) hn)
theorem BInv.none (hg : g.Ok) (h : BInv g A Bg En M F rk t []) (hAn : ∀ c, A c → c < g.n) : ∀ c, Re g A Bg c → En c = false :=
  fun c hr => (h.shut c ((h.met hg hAn c).2 hr) (by simp)).1

/-- the way back from the last cell: L holds what was passed, x is next -/
structure Back (g : Gd) (Bg : Nat → Prop) (M : Nat → Bool) (rk : Nat → Nat) (last : Nat) (L : List Nat) (x : Int) : Prop where
  met : ∀ a ∈ L, M a = true
  falls : L.Pairwise (fun a b => rk b < rk a)
  next : (x = -1 ∧ ∃ l b, L = l ++ [b] ∧ Bg b) ∨ ∃ p : Nat, x = p ∧ M p = true ∧ (∀ a ∈ L, rk p < rk a) ∧ (∀ l b, L = l ++ [b] → nb g p b)
  adj : ∀ l a b r, L = l ++ a :: b :: r → nb g b a
  head : (L = [] ∧ x = last) ∨ ∃ r, L = last :: r
theorem Back.start {last : Nat} (hM : M last = true) : Back g Bg M rk last [] last :=
  ⟨by simp, .nil, .inr ⟨last, rfl, hM, by simp, by intro l b h; simp at h⟩, by intro l a b r h; simp at h, .inl ⟨rfl, rfl⟩⟩
theorem Back.step (h0 : BBase g A Bg M F rk t q) {last : Nat} {L : List Nat} {p : Nat} (h : Back g Bg M rk last L p) : Back g Bg M rk last (L ++ [p]) (F p) := by
  have hp : M p = true ∧ (∀ a ∈ L, rk p < rk a) ∧ (∀ l b, L = l ++ [b] → nb g p b) := by
    rcases h.next with ⟨h1, _⟩ | ⟨p', h1, h2, h3⟩
    · omega
    · have e : p' = p := by omega
      subst e; exact ⟨h2, h3⟩
  refine ⟨fun a ha => ?_, ?_, ?_, fun l a b r e => ?_, ?_⟩
  · rcases List.mem_append.1 ha with ha | ha
    · exact h.met a ha
    · have e : a = p := by simpa using ha
      rw [e]; exact hp.1
  · refine List.pairwise_append.2 ⟨h.falls, by simp, fun a ha b hb => ?_⟩
    have e : b = p := by simpa using hb
    rw [e]; exact hp.2.1 a ha
  · rcases h0.link p hp.1 with ⟨h1, h2⟩ | ⟨p', h1, h2, h3, h4⟩
    · exact .inl ⟨h1, L, p, rfl, h2⟩
    · refine .inr ⟨p', h1, h2, fun a ha => ?_, fun l b e => ?_⟩
      · rcases List.mem_append.1 ha with ha | ha
        · have := hp.2.1 a ha; omega
        · have e : a = p := by simpa using ha
          rw [e]; exact h4
      · have e2 : p = b := by have := List.append_inj' e rfl; simpa using this.2
        rw [← e2]; exact h3
  · rcases List.eq_nil_or_concat r with rfl | ⟨r', z, rfl⟩
    · have e1 : L ++ [p] = (l ++ [a]) ++ [b] := by rw [e]; simp
      have e2 := List.append_inj' e1 rfl
      have e3 : p = b := by simpa using e2.2
      rw [← e3]; exact hp.2.2 l a e2.1
    · have e1 : L ++ [p] = (l ++ a :: b :: r') ++ [z] := by rw [e]; simp
      have e2 := List.append_inj' e1 rfl
      exact h.adj l a b r' e2.1
  · rcases h.head with ⟨h1, h2⟩ | ⟨r, h1⟩
    · refine .inr ⟨[], ?_⟩
      have e : p = last := by omega
      rw [h1, e]; rfl
    · exact .inr ⟨r ++ [p], by rw [h1]; rfl⟩

/-- a way from a beginning to an end -/
structure IsWay (g : Gd) (A Bg : Nat → Prop) (En : Nat → Bool) (L : List Nat) : Prop where
  cells : ∀ a ∈ L, A a
  once : L.Nodup
  adj : ∀ l a b r, L = l ++ a :: b :: r → nb g a b
  first : ∃ b r, L = b :: r ∧ Bg b
  last : ∃ l b, L = l ++ [b] ∧ En b = true
theorem Back.way (h0 : BBase g A Bg M F rk t q) {last : Nat} {L : List Nat} (h : Back g Bg M rk last L (-1)) (he : En last = true) : IsWay g A Bg En L.reverse := by
  have hn : ∃ l b, L = l ++ [b] ∧ Bg b := by
    rcases h.next with ⟨_, h1⟩ | ⟨p, h1, _⟩
    · exact h1
    · omega
  obtain ⟨l, b, e, hb⟩ := hn
  refine ⟨fun a ha => (h0.ins a (h.met a (by simpa using ha))).2, ?_, fun l a b r e => ?_, ⟨b, l.reverse, by rw [e]; simp, hb⟩, ?_⟩
  · exact List.pairwise_reverse.2 (h.falls.imp (fun hab e => by rw [e] at hab; omega))
  · have e1 : L = r.reverse ++ b :: a :: l.reverse := by
      have := congrArg List.reverse e
      simpa using this
    exact h.adj _ _ _ _ e1
  · rcases h.head with ⟨h1, _⟩ | ⟨r, h1⟩
    · rw [h1] at e; simp at e
    · exact ⟨r.reverse, last, by rw [h1]; simp, he⟩
end

/-- the state behind k rounds of path's first loop: cells that st names are met, from nowhere, and wait -/
def met1 (st : Nat → Bool) (k : Nat) : Nat → Bool := fun c => decide (c < k) && st c
def from1 (st : Nat → Bool) (k : Nat) : Int → Int := fun x => if 0 ≤ x ∧ x < k ∧ st x.toNat = true then -1 else 0
def queue1 (st : Nat → Bool) (k : Nat) : List Nat := (List.range k).filter st
theorem met1_zero (st : Nat → Bool) : met1 st 0 = fun _ => false := by funext c; simp [met1]
theorem from1_zero (st : Nat → Bool) : from1 st 0 = fun _ => 0 := by
  funext x; unfold from1; rw [if_neg]; rintro ⟨h1, h2, _⟩; simp at h2; omega
theorem met1_add {st : Nat → Bool} {k : Nat} (h : st k = true) : updB (met1 st k) k = met1 st (k + 1) := by
  funext c
  by_cases e : c = k
  · subst e; rw [updB_same]; simp [met1, h]
  · rw [updB_ne _ e]; simp only [met1]
    by_cases h2 : c < k
    · simp [h2, show c < k + 1 from by omega]
    · simp [h2, show ¬ c < k + 1 from by omega]
theorem met1_skip {st : Nat → Bool} {k : Nat} (h : st k = false) : met1 st k = met1 st (k + 1) := by
  funext c
  simp only [met1]
  by_cases e : c = k
  · subst e; simp [h]
  · by_cases h2 : c < k
    · simp [h2, show c < k + 1 from by omega]
    · simp [h2, show ¬ c < k + 1 from by omega]
theorem from1_add {st : Nat → Bool} {k : Nat} (h : st k = true) : (fun x => if x = (k : Int) then -1 else from1 st k x) = from1 st (k + 1) := by
  funext x
  by_cases e : x = k
  · subst e; simp [from1, h]; omega
  · simp only [if_neg e, from1]
    by_cases h2 : 0 ≤ x ∧ x < k ∧ st x.toNat = true
    · rw [if_pos h2, if_pos ⟨h2.1, by omega, h2.2.2⟩]
    · rw [if_neg h2, if_neg (fun h3 => h2 ⟨h3.1, by omega, h3.2.2⟩)]
theorem from1_skip {st : Nat → Bool} {k : Nat} (h : st k = false) : from1 st k = from1 st (k + 1) := by
  funext x
  simp only [from1]
  by_cases h2 : 0 ≤ x ∧ x < k ∧ st x.toNat = true
  · rw [if_pos h2, if_pos ⟨h2.1, by omega, h2.2.2⟩]
  · rw [if_neg h2, if_neg (fun h3 => h2 ⟨h3.1, ?_, h3.2.2⟩)]
    have := h3.2.1
    have hne : x ≠ k := fun e => by subst e; rw [Int.toNat_natCast, h] at h3; exact absurd h3.2.2 (by simp)
    omega
theorem queue1_add {st : Nat → Bool} {k : Nat} (h : st k = true) : queue1 st (k + 1) = queue1 st k ++ [k] := by simp [queue1, List.range_succ, h]
theorem queue1_skip {st : Nat → Bool} {k : Nat} (h : st k = false) : queue1 st (k + 1) = queue1 st k := by simp [queue1, List.range_succ, h]
theorem queue1_length (st : Nat → Bool) (k : Nat) : (queue1 st k).length ≤ k := by
  have := List.length_filter_le st (List.range k)
  simpa [queue1] using this
theorem BInv.begin {g : Gd} {A Bg : Nat → Prop} {En : Nat → Bool} {st : Nat → Bool} (h1 : ∀ k, k < g.n → (st k = true ↔ A k ∧ Bg k)) (h2 : ∀ k, A k → k < g.n) :
    BInv g A Bg En (met1 st g.n) (from1 st g.n) (fun _ => 0) 1 (queue1 st g.n) := by
  have hm : ∀ k, met1 st g.n k = true → k < g.n ∧ st k = true := fun k hk => by simpa [met1] using hk
  refine ⟨⟨fun k hk => ?_, fun k hk => ?_, fun k hA hB => ?_, fun k hk => ?_, fun k hk => by omega, fun k hk => ?_⟩, fun k hk hq => absurd ?_ hq⟩
  · obtain ⟨h3, h4⟩ := hm k hk; exact ⟨h3, ((h1 k h3).1 h4).1⟩
  · obtain ⟨h3, h4⟩ := hm k hk; exact .base ((h1 k h3).1 h4).1 ((h1 k h3).1 h4).2
  · have := h2 k hA; simp [met1, this, (h1 k this).2 ⟨hA, hB⟩]
  · obtain ⟨h3, h4⟩ := hm k hk
    refine .inl ⟨?_, ((h1 k h3).1 h4).2⟩
    unfold from1
    rw [if_pos ⟨by omega, by omega, by simpa using h4⟩]
  · have : k < g.n ∧ st k = true := by simpa [queue1] using hk
    simp [met1, this.1, this.2]
  · obtain ⟨h3, h4⟩ := hm k hk; simp [queue1, h3, h4]
/-- the measure of the search -/
def unmet (M : Nat → Bool) : Nat → Int := fun k => if M k = true then 0 else 1
theorem unmet_upd {M : Nat → Bool} (k : Nat) : unmet (updB M k) = upd (unmet M) k 0 := by
  funext c
  by_cases e : c = k
  · subst e; simp [unmet, updB_same, upd_same]
  · rw [upd_ne _ _ e]; simp [unmet, updB_ne _ e]

end Go.Proofs.Ytdgibmgifgdpbaa
/-
  The closures of package ridge: by's, parts', Crossing's, land's.
-/
namespace Go.Proofs.Ytdgibmgifgdpbaa
open Go.RowKit Go.Shelf
open Lim

set_option maxHeartbeats 400000 in
theorem by_any (b : Nat) (s : Int) (w : World) : Calls Try.prog 89 #[.pointer (some ⟨b, 0, none⟩), .int .i64 s] w fun e w' =>
    e = .returned (.func (.func 105) #[] #[.pointer (some ⟨w.heap.size, 0, none⟩), .pointer (some ⟨w.heap.size + 1, 0, none⟩)]) ∧ Below w.heap.size w w' ∧
    w'.cell? ⟨w.heap.size, 0, none⟩ = some (.pointer (some ⟨b, 0, none⟩)) ∧ w'.cell? ⟨w.heap.size + 1, 0, none⟩ = some (.int .i64 s) := by
  go_enter Try.func89, Try.ntmps89
  go_wp2
  go_ret
  exact ⟨rfl, ((Below.refl _ w).alloc (Nat.le_refl _) _).alloc (by simp) _, by simp [go_sem], by simp [go_sem]⟩

set_option maxHeartbeats 400000 in
theorem by1_any {B b c bw bs : Nat} {g : Gd} {s : Int} {w : World} (hg : g.Ok) (hc : c < g.ss.length) (hB : B ≤ w.heap.size) (hw : WorkAt B w b g) (h0 : w.cell? ⟨bw, 0, none⟩ = some (.pointer (some ⟨b, 0, none⟩))) (h1 : w.cell? ⟨bs, 0, none⟩ = some (.int .i64 s)) :
    Calls Try.prog 105 #[.int .i64 c, .pointer (some ⟨bw, 0, none⟩), .pointer (some ⟨bs, 0, none⟩)] w fun e w' => e = .returned (.bool (atB g c s)) ∧ Below w.heap.size w w' := by
  have CA := Lib.hid (at_any (s := s) hg hc hB hw)
  clear hw
  go_enter Try.func105, Try.ntmps105
  go_wp2_with fail
  refine CA.out.mono ?_
  rintro e w5 ⟨rfl, hb5⟩
  go_wp2
  go_ret
  exact ⟨rfl, hb5⟩

set_option maxHeartbeats 400000 in
theorem parts1_any {B bx : Nat} {v : Value} {xs : List Int} (c : Int) {w : World} (hn : xs.length ≤ 100000) (hv : RS B w v xs.length (ints xs)) (h0 : w.cell? ⟨bx, 0, none⟩ = some v) :
    Calls Try.prog 99 #[.int .i64 c, .pointer (some ⟨bx, 0, none⟩)] w fun e w' => e = .returned (.bool (!decide (c ∈ xs))) ∧ w = w' := by
  have CA := Lib.hid (contains_any c hn hv)
  obtain ⟨a, cap, rfl, -⟩ := hv
  obtain ⟨d, hd⟩ : ∃ d, decide (c ∈ xs) = d := ⟨_, rfl⟩
  rw [hd] at CA ⊢
  clear hd
  go_enter Try.func99, Try.ntmps99
  go_wp2_with fail
  refine CA.out.mono ?_
  rintro e w5 ⟨rfl, rfl⟩
  go_wp2
  go_ret
  exact ⟨rfl, rfl⟩

set_option maxRecDepth 20000 in
set_option maxHeartbeats 400000 in
theorem crossing1_any {B bg bs k : Nat} {hv : Value} {hs : List (Int × Int)} {h : Int} {w : World} (hk : k < hs.length) (hh : RS B w hv hs.length (spans hs)) (h0 : w.cell? ⟨bg, 1, none⟩ = some hv) (h1 : w.cell? ⟨bs, 1, none⟩ = some (.int .i64 h)) :
    Calls Try.prog 88 #[.int .i64 k, .pointer (some ⟨bg, 0, none⟩), .pointer (some ⟨bs, 0, none⟩)] w fun e w' => e = .returned (.bool (decide ((hs.getD k (0, 0)).2 ≤ h))) ∧ Below w.heap.size w w' := by
  obtain ⟨ha, hcap, rfl, hc⟩ := hh
  obtain ⟨hb, hoff, rfl, hhb, hcell⟩ := hc (spans_ne (by omega))
  obtain ⟨up, hup⟩ : ∃ up, up = (hs.getD k (0, 0)).2 := ⟨_, rfl⟩
  have q1 : w.cell? ⟨hb, hoff + k * 2 + 1, none⟩ = some (.int .i64 up) := by rw [hup, List.getD_eq_getElem?_getD, List.getElem?_eq_getElem hk]; exact hcell _ _ (spans_hi _ k hk)
  rw [← hup]
  clear hc hcell hup
  go_enter Try.func88, Try.ntmps88
  go_wp2
  have hC : (fun W => W.cell? ⟨bg, 1, none⟩ = some (.slice (some ⟨hb, hoff, none⟩) hs.length hcap) ∧ W.cell? ⟨hb, hoff + k * 2 + 1, none⟩ = some (.int .i64 up) ∧ W.cell? ⟨bs, 1, none⟩ = some (.int .i64 h)) w.drew := ⟨h0, q1, h1⟩
  refine Lim.regC' (fun W => W.cell? ⟨bg, 1, none⟩ = some (.slice (some ⟨hb, hoff, none⟩) hs.length hcap) ∧ W.cell? ⟨hb, hoff + k * 2 + 1, none⟩ = some (.int .i64 up) ∧ W.cell? ⟨bs, 1, none⟩ = some (.int .i64 h)) [] #[false, false, false, false, false, false, false, false, false, false] (by kernel_rfl) rfl ?_
  refine Lim.stepR 0 (fun _ => trivial) rfl (by kernel_rfl) (fun _ _ _ _ h => h) hC rfl ?_; apply Exists.intro; refine ⟨?_, ?_⟩
  · rintro w ⟨r1, r2, r3⟩; go_simp; try with_reducible rfl
  simp only [Act.put, List.setIfInBounds_toArray, List.set_cons_succ, List.set_cons_zero]
  refine Lim.stepR 1 (fun _ => trivial) rfl (by kernel_rfl) (fun _ _ _ _ h => h) hC rfl ?_; apply Exists.intro; refine ⟨?_, ?_⟩
  · rintro w ⟨r1, r2, r3⟩; go_simp; try with_reducible rfl
  simp only [Act.put, List.setIfInBounds_toArray, List.set_cons_succ, List.set_cons_zero]
  refine Lim.stepR 2 (fun _ => trivial) rfl (by kernel_rfl) (fun _ _ _ _ h => h) hC rfl ?_; apply Exists.intro; refine ⟨?_, ?_⟩
  · rintro w ⟨r1, r2, r3⟩; go_simp; try with_reducible rfl
  simp only [Act.put, List.setIfInBounds_toArray, List.set_cons_succ, List.set_cons_zero]
  refine Lim.stepR 3 (fun _ => trivial) rfl (by kernel_rfl) (fun _ _ _ _ h => h) hC rfl ?_; apply Exists.intro; refine ⟨?_, ?_⟩
  · rintro w ⟨r1, r2, r3⟩; go_simp; try with_reducible rfl
  simp only [Act.put, List.setIfInBounds_toArray, List.set_cons_succ, List.set_cons_zero]
  refine Lim.stepR 4 (fun _ => trivial) rfl (by kernel_rfl) (fun _ _ _ _ h => h) hC rfl ?_; apply Exists.intro; refine ⟨?_, ?_⟩
  · rintro w ⟨r1, r2, r3⟩; go_simp; try with_reducible rfl
  simp only [Act.put, List.setIfInBounds_toArray, List.set_cons_succ, List.set_cons_zero]
  refine Lim.stepR 5 (fun _ => trivial) rfl (by kernel_rfl) (fun _ _ _ _ h => h) hC rfl ?_; apply Exists.intro; refine ⟨?_, ?_⟩
  · rintro w ⟨r1, r2, r3⟩; go_simp; try with_reducible rfl
  simp only [Act.put, List.setIfInBounds_toArray, List.set_cons_succ, List.set_cons_zero]
  refine Lim.stepR 6 (fun _ => trivial) rfl (by kernel_rfl) (fun _ _ _ _ h => h) hC rfl ?_; apply Exists.intro; refine ⟨?_, ?_⟩
  · rintro w ⟨r1, r2, r3⟩; go_simp; try with_reducible rfl
  simp only [Act.put, List.setIfInBounds_toArray, List.set_cons_succ, List.set_cons_zero]
  refine Lim.stepR 7 (fun _ => trivial) rfl (by kernel_rfl) (fun _ _ _ _ h => h) hC rfl ?_; apply Exists.intro; refine ⟨?_, ?_⟩
  · rintro w ⟨r1, r2, r3⟩; go_simp; try with_reducible rfl
  simp only [Act.put, List.setIfInBounds_toArray, List.set_cons_succ, List.set_cons_zero]
  refine Lim.stepR 8 (fun _ => trivial) rfl (by kernel_rfl) (fun _ _ _ _ h => h) hC rfl ?_; apply Exists.intro; refine ⟨?_, ?_⟩
  · rintro w ⟨r1, r2, r3⟩; go_simp; try with_reducible rfl
  simp only [Act.put, List.setIfInBounds_toArray, List.set_cons_succ, List.set_cons_zero]
  refine Lim.stepR 9 (fun _ => trivial) rfl (by kernel_rfl) (fun _ _ _ _ h => h) hC rfl ?_; apply Exists.intro; refine ⟨?_, ?_⟩
  · rintro w ⟨r1, r2, r3⟩; go_simp; try with_reducible rfl
  simp only [Act.put, List.setIfInBounds_toArray, List.set_cons_succ, List.set_cons_zero]
  refine Lim.stepD (by kernel_rfl) ?_
  clear hC
  go_wp2
  go_ret
  exact ⟨rfl, (Below.refl _ w).drew⟩
end Go.Proofs.Ytdgibmgifgdpbaa
/-
  The contract of ridge's function land: a ground at work, if all of some cells are land.
-/
namespace Go.Proofs.Ytdgibmgifgdpbaa
open Go.RowKit Go.Shelf
open Lim

/-- whether a number is not a land cell's -/
def offLand (hs : List (Int × Int)) (ss : List Int) (c : Int) : Bool := !inB c 0 ((hs.length : Int) - 1) || decide (ss.getD c.toNat 0 ≠ 0)

set_option maxHeartbeats 400000 in
theorem land1_any {B bg : Nat} {wd c : Int} {hv sv : Value} {hs : List (Int × Int)} {ss : List Int} {w : World} (hlen : ss.length = hs.length) (hl : hs.length ≤ 100) (hh : RS B w hv hs.length (spans hs)) (hss : RS B w sv ss.length (ints ss))
    (h0 : w.cell? ⟨bg, 0, none⟩ = some (.int .i64 wd)) (h1 : w.cell? ⟨bg, 1, none⟩ = some hv) (h2 : w.cell? ⟨bg, 2, none⟩ = some sv) :
    Calls Try.prog 100 #[.int .i64 c, .pointer (some ⟨bg, 0, none⟩)] w fun e w' => e = .returned (.bool (offLand hs ss c)) ∧ w = w' := by
  obtain ⟨ha, hcap, rfl, -⟩ := hh
  obtain ⟨sa, scap, rfl, hsc⟩ := hss
  have e1 : IntKind.i64.wrap ((hs.length : Int) - 1) = (hs.length : Int) - 1 := IntWalk.i64_in _ (by omega)
  cases hin : inB c 0 ((hs.length : Int) - 1) with
  | false =>
    have he : offLand hs ss c = true := by rw [offLand, hin]; rfl
    have HE := Lib.hid he
    clear he hsc
    go_enter Try.func100, Try.ntmps100
    go_wp2_with (go_at_call 71; refine (in_any _ _ _ _).mono ?_; rintro e w' ⟨rfl, rfl⟩)
    go_ret
    exact ⟨by rw [HE.out]; rfl, rfl⟩
  | true =>
    have hin2 := inB_iff.1 hin
    obtain ⟨k, rfl⟩ : ∃ k : Nat, c = k := ⟨c.toNat, by omega⟩
    have hk : k < ss.length := by omega
    obtain ⟨sb, soff, rfl, hsb, hcell⟩ := hsc (ints_ne (by omega))
    obtain ⟨z, hz⟩ : ∃ z, z = ss.getD k 0 := ⟨_, rfl⟩
    have q0 : w.cell? ⟨sb, soff + k, none⟩ = some (.int .i64 z) := by rw [hz]; exact hcell k _ (ints_at' _ _ hk)
    have HE := Lib.hid (show offLand hs ss k = (z != 0) by rw [offLand, hin, Int.toNat_natCast, ← hz]; by_cases h : z = 0 <;> simp [h])
    clear hsc hcell hz hin2
    go_enter Try.func100, Try.ntmps100
    go_wp2_with (go_at_call 71; refine (in_any _ _ _ _).mono ?_; rintro e w' ⟨rfl, rfl⟩)
    go_ret
    exact ⟨by rw [HE.out]; rfl, rfl⟩
/-- what land answers -/
def landErr (wd : Int) (hs : List (Int × Int)) (ss xs : List Int) : Int := if openErr wd hs ss ≠ 0 then openErr wd hs ss else if (xs.any (offLand hs ss)) = true then 2 else 0
theorem any_range (xs : List Int) (p : Int → Bool) : ((List.range xs.length).any fun k => p (xs.getD k 0)) = xs.any p := by
  rw [Bool.eq_iff_iff, List.any_eq_true, List.any_eq_true]
  constructor
  · rintro ⟨k, hk, hp⟩
    have hk := List.mem_range.1 hk
    rw [List.getD_eq_getElem?_getD, List.getElem?_eq_getElem hk] at hp
    exact ⟨_, List.getElem_mem hk, hp⟩
  · rintro ⟨x, hx, hp⟩
    obtain ⟨k, hk, rfl⟩ := List.mem_iff_getElem.1 hx
    exact ⟨k, List.mem_range.2 hk, by rw [List.getD_eq_getElem?_getD, List.getElem?_eq_getElem hk]; exact hp⟩

set_option maxRecDepth 20000 in
set_option maxHeartbeats 1000000 in
theorem land_any {B : Nat} {wd : Int} {hv sv cv : Value} {hs : List (Int × Int)} {ss xs : List Int} {w : World} (hn : xs.length ≤ 100000) (hB : B ≤ w.heap.size) (hh : RS B w hv hs.length (spans hs)) (hss : RS B w sv ss.length (ints ss)) (hxs : RS B w cv xs.length (ints xs)) :
    Calls Try.prog 79 #[.agg #[.int .i64 wd, hv, sv], cv] w fun e w' => ∃ p, e = .returned (.tuple #[.pointer p, .int .i64 (landErr wd hs ss xs)]) ∧ Below w.heap.size w w' ∧
      (landErr wd hs ss xs = 0 → ∃ q, p = some ⟨q, 0, none⟩ ∧ w.heap.size ≤ q ∧ WorkIn B w' q ⟨wd.toNat, hs, ss⟩ ∧ MetAt w' q (fun _ => false)) := by
  have B1 : Below w.heap.size w (w.alloc (.cells #[.int .i64 wd, hv, sv] 25)) := (Below.refl _ w).alloc (Nat.le_refl _) _
  have CO := Lib.hid (opened_any (B := B) (wd := wd) (by simp; omega) (hh.below (B1.mono hB)) (hss.below (B1.mono hB)))
  have HR := Lib.hid (And.intro hh (And.intro hss hxs))
  obtain ⟨ha, hcap, rfl, -⟩ := hh
  obtain ⟨sa, scap, rfl, -⟩ := hss
  obtain ⟨ca, ccap, rfl, -⟩ := hxs
  go_enter Try.func79, Try.ntmps79
  go_wp2_with fail
  have z0 : (w.alloc (.cells #[.int .i64 wd, .slice ha hs.length hcap, .slice sa ss.length scap] 25)).cell? ⟨w.heap.size, 0, none⟩ = some (.int .i64 wd) := by simp [go_sem]
  have z1 : (w.alloc (.cells #[.int .i64 wd, .slice ha hs.length hcap, .slice sa ss.length scap] 25)).cell? ⟨w.heap.size, 1, none⟩ = some (.slice ha hs.length hcap) := by simp [go_sem]
  have z2 : (w.alloc (.cells #[.int .i64 wd, .slice ha hs.length hcap, .slice sa ss.length scap] 25)).cell? ⟨w.heap.size, 2, none⟩ = some (.slice sa ss.length scap) := by simp [go_sem]
  refine CO.out.mono ?_
  rintro e w1 ⟨hb, hcase⟩
  have r0 := cell_on hb z0
  have r1 := cell_on hb z1
  have r2 := cell_on hb z2
  have BR : Below w.heap.size w w1 := B1.trans (hb.mono (by simp))
  have hqs : w.heap.size + 1 ≤ w1.heap.size := by have := hb.size; simpa using this
  clear z0 z1 z2 hb CO B1
  rcases hcase with ⟨he, q, rfl, hq, HW, HM⟩ | ⟨he, rfl⟩
  · have hq : w.heap.size + 1 ≤ q := by simpa using hq
    have HO := Lib.hid (openErr_ok he)
    have hlen : ss.length = hs.length := HO.out.hn.symm
    have hl : hs.length ≤ 100 := by have h1 : ss.length ≤ 100 := HO.out.n1; omega
    have CF : Calls Try.prog 85 #[.slice ca xs.length ccap, .func (.func 100) #[] #[.pointer (some ⟨w.heap.size, 0, none⟩)]] w1 fun e w' => e = .returned (.bool (xs.any (offLand hs ss))) ∧ Below w1.heap.size w1 w' := by
      rw [← any_range]
      refine containsFunc_ints (B := B) (enters_of Try.func100 (by kernel_rfl) rfl) hn (HR.out.2.2.below (BR.mono hB)) (by omega) (fun k hk W hbW => ?_)
      have : Calls Try.prog 100 #[.int .i64 (xs.getD k 0), .pointer (some ⟨w.heap.size, 0, none⟩)] W fun e W' => e = .returned (.bool (offLand hs ss (xs.getD k 0))) ∧ Below W.heap.size W W' :=
        (land1_any (B := B) hlen hl ((HR.out.1.below (BR.mono hB)).below (hbW.mono (by omega))) ((HR.out.2.1.below (BR.mono hB)).below (hbW.mono (by omega))) (cell_on hbW r0) (cell_on hbW r1) (cell_on hbW r2)).mono (fun e w' h => ⟨h.1, by rw [← h.2]; exact Below.refl _ _⟩)
      simpa using this
    have HE := Lib.hid (And.intro he (And.intro HW HM))
    have HC := Lib.hid CF
    obtain ⟨d, hd⟩ : ∃ d, xs.any (offLand hs ss) = d := ⟨_, rfl⟩
    rw [hd] at HC
    have HD := Lib.hid hd
    clear hd CF he HW HM r0 r1 r2
    go_wp2_with fail
    refine HC.out.mono ?_
    rintro e w2 ⟨rfl, hb2⟩
    have BR2 := BR.trans (hb2.mono BR.size)
    cases d with
    | true =>
      have hle : landErr wd hs ss xs = 2 := by rw [landErr, HE.out.1, if_neg (by decide), HD.out, if_pos rfl]
      have HLE := Lib.hid hle
      clear hle
      go_wp2
      go_ret2
      exact ⟨some ⟨q, 0, none⟩, by rw [HLE.out]; rfl, BR2, fun h => by rw [HLE.out] at h; exact absurd h (by decide)⟩
    | false =>
      have hle : landErr wd hs ss xs = 0 := by rw [landErr, HE.out.1, if_neg (by decide), HD.out, if_neg (by decide)]
      have HLE := Lib.hid hle
      clear hle
      go_wp2
      go_ret2
      exact ⟨some ⟨q, 0, none⟩, by rw [HLE.out]; rfl, BR2, fun _ => ⟨q, rfl, by omega, HE.out.2.1.below hb2 (by omega), HE.out.2.2.below hb2⟩⟩
  · have he1 : (openErr wd hs ss == 0) = false := by simpa using he
    have hle : landErr wd hs ss xs = openErr wd hs ss := by rw [landErr, if_pos he]
    have HLE := Lib.hid hle
    clear hle
    go_wp2
    go_ret2
    exact ⟨none, by rw [HLE.out]; rfl, BR, fun h => absurd (HLE.out ▸ h) he⟩
end Go.Proofs.Ytdgibmgifgdpbaa
