/-
  Parts of the proof, in the order in which they build: CoA.
-/
set_option linter.unusedVariables false
set_option linter.unusedSimpArgs false
namespace Go.Proofs.Ytiacgaplhndlnaa

/-- the finding of a claim -/
def fdg (F : List Int) (n : Nat) : Int := F.getD n 0
theorem fdg_set {F : List Int} {n : Nat} {v : Int} (h : n < F.length) (k : Nat) : fdg (F.set n v) k = if k = n then v else fdg F k := by
  unfold fdg
  rw [List.getD_eq_getElem?_getD, List.getD_eq_getElem?_getD, List.getElem?_set]
  by_cases e : n = k
  · subst e; simp [h]
  · rw [if_neg e, if_neg (fun x => e x.symm)]
/-- what is found has its reason, of a lesser rank -/
structure Sound (S : List (Nat × Nat)) (F R : List Int) : Prop where
  le : ∀ n, fdg F n = 0 ∨ fdg F n = 1 ∨ fdg F n = 2
  up : ∀ n, fdg F n = 1 → ∀ b, (b, n) ∈ S → fdg F b = 2 ∧ fdg R b < fdg R n
  dn : ∀ n, fdg F n = 2 → ∃ b, (b, n) ∈ S ∧ fdg F b = 1 ∧ fdg R b < fdg R n
  r0 : ∀ n, 0 ≤ fdg R n
/-- what is open cannot be found -/
def Stuck (S : List (Nat × Nat)) (F : List Int) (n : Nat) : Prop :=
  fdg F n = 0 → (∀ b, (b, n) ∈ S → fdg F b ≠ 1) ∧ ∃ b, (b, n) ∈ S ∧ fdg F b = 0
theorem Sound.agree {S : List (Nat × Nat)} {C : Nat} {F R G T : List Int} (hS : ∀ s ∈ S, s.1 < C) (hF : Sound S F R) (hG : Sound S G T) (fG : ∀ n, n < C → Stuck S G n) :
    ∀ (k n : Nat), fdg R n ≤ k → n < C → fdg F n ≠ 0 → fdg G n = fdg F n := by
  intro k
  induction k using Nat.strongRecOn with
  | _ k ih =>
    intro n hn hc h0
    have low : ∀ b, (b, n) ∈ S → fdg R b < fdg R n → fdg F b ≠ 0 → fdg G b = fdg F b := fun b hb hr h => by
      have h1 := hF.r0 b
      have h2 : (fdg R b).toNat < k := by omega
      exact ih _ h2 b (by omega) (hS _ hb) h
    rcases hF.le n with h | h | h
    · exact absurd h h0
    · rcases hG.le n with g | g | g
      · obtain ⟨b, hb, g1⟩ := (fG n hc g).2
        have h1 := hF.up n h b hb
        have h2 := low b hb h1.2 (by omega)
        omega
      · omega
      · obtain ⟨b, hb, g1, -⟩ := hG.dn n g
        have h1 := hF.up n h b hb
        have h2 := low b hb h1.2 (by omega)
        omega
    · obtain ⟨b, hb, h1, hr⟩ := hF.dn n h
      have h2 := low b hb hr (by omega)
      rcases hG.le n with g | g | g
      · exact absurd (h2.trans h1) ((fG n hc g).1 b hb)
      · have h3 := (hG.up n g b hb).1
        omega
      · omega
/-- there is one finding that is sound and full -/
theorem Sound.unique {S : List (Nat × Nat)} {C : Nat} {F R G T : List Int} (hS : ∀ s ∈ S, s.1 < C) (hF : Sound S F R) (hG : Sound S G T) (fF : ∀ n, n < C → Stuck S F n) (fG : ∀ n, n < C → Stuck S G n) {n : Nat} (hn : n < C) : fdg F n = fdg G n := by
  by_cases h : fdg F n = 0
  · by_cases g : fdg G n = 0
    · omega
    · exact Sound.agree hS hG hF fF (fdg T n).toNat n (by have := hG.r0 n; omega) hn g
  · exact (Sound.agree hS hF hG fG (fdg R n).toNat n (by have := hF.r0 n; omega) hn h).symm
/-- how many are found -/
def nfd (F : List Int) : Nat := F.countP (fun x => decide (x ≠ 0))
theorem nfd_set {F : List Int} {n : Nat} {v : Int} (h : n < F.length) (h0 : fdg F n = 0) (hv : v ≠ 0) : nfd (F.set n v) = nfd F + 1 := by
  unfold nfd
  have e : F[n] = 0 := by
    have : fdg F n = F[n] := by unfold fdg; rw [List.getD_eq_getElem?_getD, List.getElem?_eq_getElem h]; rfl
    rw [← this]; exact h0
  rw [List.countP_set h]
  simp [e, hv]
theorem nfd_le (F : List Int) : nfd F ≤ F.length := List.countP_le_length
/-- a claim can be found: it is struck by one that is upheld, or only by such as are dismissed -/
theorem Sound.down {S : List (Nat × Nat)} {F R : List Int} {n b : Nat} {r : Int} (h : Sound S F R) (hl : n < F.length) (hl2 : n < R.length) (h0 : fdg F n = 0) (hb : (b, n) ∈ S) (h1 : fdg F b = 1) (hr : ∀ b, (b, n) ∈ S → fdg R b < r) (hr1 : 1 ≤ r) : Sound S (F.set n 2) (R.set n r) := by
  refine ⟨fun k => ?_, fun k hk b' hb' => ?_, fun k hk => ?_, fun k => ?_⟩
  · rw [fdg_set hl]; split
    · exact .inr (.inr rfl)
    · exact h.le k
  · rw [fdg_set hl] at hk
    rw [fdg_set hl, fdg_set hl2, fdg_set hl2]
    split at hk
    · cases hk
    · rename_i hne
      have h2 := h.up k hk b' hb'
      have : b' ≠ n := fun e => by rw [e] at h2; omega
      rw [if_neg this, if_neg this, if_neg hne]
      exact h2
  · rw [fdg_set hl] at hk
    by_cases e : k = n
    · subst e
      refine ⟨b, hb, ?_, ?_⟩
      · rw [fdg_set hl, if_neg (fun e => by subst e; omega)]; exact h1
      · rw [fdg_set hl2, fdg_set hl2, if_pos rfl, if_neg (fun e => by subst e; omega)]; exact hr b hb
    · rw [if_neg e] at hk
      obtain ⟨c, hc, g1, g2⟩ := h.dn k hk
      have : c ≠ n := fun e => by rw [e] at g1; omega
      exact ⟨c, hc, by rw [fdg_set hl, if_neg this]; exact g1, by rw [fdg_set hl2, fdg_set hl2, if_neg this, if_neg e]; exact g2⟩
  · rw [fdg_set hl2]; split
    · omega
    · exact h.r0 k
theorem Sound.upheld {S : List (Nat × Nat)} {F R : List Int} {n : Nat} {r : Int} (h : Sound S F R) (hl : n < F.length) (hl2 : n < R.length) (h0 : fdg F n = 0) (hn : ∀ b, (b, n) ∈ S → fdg F b ≠ 1 ∧ fdg F b ≠ 0) (hr : ∀ b, (b, n) ∈ S → fdg R b < r) (hr1 : 1 ≤ r) : Sound S (F.set n 1) (R.set n r) := by
  refine ⟨fun k => ?_, fun k hk b' hb' => ?_, fun k hk => ?_, fun k => ?_⟩
  · rw [fdg_set hl]; split
    · exact .inr (.inl rfl)
    · exact h.le k
  · rw [fdg_set hl] at hk
    rw [fdg_set hl, fdg_set hl2, fdg_set hl2]
    by_cases e : k = n
    · subst e
      have h1 := hn b' hb'
      have : b' ≠ k := fun e => by rw [e] at h1; exact h1.2 h0
      rw [if_neg this, if_neg this, if_pos rfl]
      have := h.le b'
      exact ⟨by omega, hr b' hb'⟩
    · rw [if_neg e] at hk
      have h2 := h.up k hk b' hb'
      have : b' ≠ n := fun e => by rw [e] at h2; omega
      rw [if_neg this, if_neg this, if_neg e]
      exact h2
  · rw [fdg_set hl] at hk
    split at hk
    · cases hk
    · rename_i e
      obtain ⟨c, hc, g1, g2⟩ := h.dn k hk
      have : c ≠ n := fun e => by rw [e] at g1; omega
      exact ⟨c, hc, by rw [fdg_set hl, if_neg this]; exact g1, by rw [fdg_set hl2, fdg_set hl2, if_neg this, if_neg e]; exact g2⟩
  · rw [fdg_set hl2]; split
    · omega
    · exact h.r0 k
/-- the next rank: one more than those of all that strike a claim -/
def nxtR (R : List Int) (n : Nat) : List (Nat × Nat) → Int → Int
  | [], m => m
  | s :: S, m => nxtR R n S (if s.2 = n then (if m < fdg R s.1 + 1 then fdg R s.1 + 1 else m) else m)
theorem nxtR_le (R : List Int) (n : Nat) : ∀ (S : List (Nat × Nat)) (m : Int), m ≤ nxtR R n S m ∧ ∀ b, (b, n) ∈ S → fdg R b < nxtR R n S m
  | [], m => ⟨Int.le_refl _, fun b h => absurd h List.not_mem_nil⟩
  | s :: S, m => by
    have ih := nxtR_le R n S (if s.2 = n then (if m < fdg R s.1 + 1 then fdg R s.1 + 1 else m) else m)
    unfold nxtR
    refine ⟨?_, fun b hb => ?_⟩
    · refine Int.le_trans ?_ ih.1
      split
      · split <;> omega
      · exact Int.le_refl _
    · rcases List.mem_cons.1 hb with e | hb
      · have h1 := ih.1
        subst e
        dsimp only at h1 ⊢
        rw [if_pos rfl] at h1 ⊢
        by_cases h2 : m < fdg R b + 1
        · rw [if_pos h2] at h1 ⊢; omega
        · rw [if_neg h2] at h1 ⊢; omega
      · exact ih.2 b hb
theorem nxtR_top (R : List Int) (n : Nat) {t : Int} (hR : ∀ k, fdg R k < t) : ∀ (S : List (Nat × Nat)) (m : Int), m ≤ t → nxtR R n S m ≤ t
  | [], m, h => h
  | s :: S, m, h => by
    unfold nxtR
    refine nxtR_top R n hR S _ ?_
    have := hR s.1
    split
    · split <;> omega
    · exact h
/-- the first of a list of strikes are those that strike a claim with a finding -/
def strk (F : List Int) (n : Nat) (f : Int) (S : List (Nat × Nat)) : Bool := S.any fun s => decide (s.2 = n) && decide (fdg F s.1 = f)
theorem strk_iff {F : List Int} {n : Nat} {f : Int} {S : List (Nat × Nat)} : strk F n f S = true ↔ ∃ b, (b, n) ∈ S ∧ fdg F b = f := by
  unfold strk
  rw [List.any_eq_true]
  constructor
  · rintro ⟨⟨b, k⟩, h, e⟩
    simp only [Bool.and_eq_true, decide_eq_true_eq] at e
    obtain ⟨rfl, e⟩ := e
    exact ⟨b, h, e⟩
  · rintro ⟨b, h, e⟩
    exact ⟨(b, n), h, by simp [e]⟩
/-- the state of a hearing -/
structure Court (S : List (Nat × Nat)) (C : Nat) (F R : List Int) : Prop where
  s : Sound S F R
  f14 : F.length = 14
  r14 : R.length = 14
  top : ∀ k, fdg R k ≤ nfd F
theorem Court.zero (S : List (Nat × Nat)) (C : Nat) : Court S C (List.replicate 14 0) (List.replicate 14 0) := by
  have e : ∀ k, fdg (List.replicate 14 0) k = 0 := fun k => by
    unfold fdg
    rw [List.getD_eq_getElem?_getD, List.getElem?_replicate]
    split <;> rfl
  refine ⟨⟨fun n => .inl (e n), fun n h => (by rw [e] at h; omega), fun n h => (by rw [e] at h; omega), fun n => (by rw [e]; omega)⟩, by simp, by simp, fun k => by rw [e]; omega⟩
/-- what hearing a claim makes of the findings and ranks -/
def hearS (S : List (Nat × Nat)) (F R : List Int) (n : Nat) : List Int × List Int :=
  if fdg F n ≠ 0 then (F, R)
  else if strk F n 1 S = true then (F.set n 2, R.set n (nxtR R n S 1))
  else if strk F n 0 S = true then (F, R)
  else (F.set n 1, R.set n (nxtR R n S 1))
theorem Court.hear {S : List (Nat × Nat)} {C : Nat} {F R : List Int} (h : Court S C F R) {n : Nat} (hn : n < 14) : Court S C (hearS S F R n).1 (hearS S F R n).2 ∧
    ((hearS S F R n).1 = F ∧ (hearS S F R n).2 = R ∧ Stuck S F n ∨ nfd (hearS S F R n).1 = nfd F + 1) := by
  have hl : n < F.length := by rw [h.f14]; exact hn
  have hl2 : n < R.length := by rw [h.r14]; exact hn
  have hx := nxtR_le R n S 1
  have ht := nxtR_top R n (t := (nfd F : Int) + 1) (fun k => by have := h.top k; omega) S 1 (by omega)
  have top : ∀ v : Int, v ≠ 0 → fdg F n = 0 → ∀ k, fdg (R.set n (nxtR R n S 1)) k ≤ nfd (F.set n v) := fun v hv h0 k => by
    rw [nfd_set hl h0 hv, fdg_set hl2]
    have := h.top k
    split <;> omega
  unfold hearS
  split
  · rename_i h0
    exact ⟨h, .inl ⟨rfl, rfl, fun e => absurd e h0⟩⟩
  · rename_i h0
    have h0 : fdg F n = 0 := by simpa using h0
    split
    · rename_i h1
      obtain ⟨b, hb, g⟩ := strk_iff.1 h1
      exact ⟨⟨h.s.down hl hl2 h0 hb g hx.2 hx.1, by simp [h.f14], by simp [h.r14], top 2 (by omega) h0⟩, .inr (nfd_set hl h0 (by omega))⟩
    · rename_i h1
      split
      · rename_i h2
        exact ⟨h, .inl ⟨rfl, rfl, fun _ => ⟨fun b hb e => h1 (strk_iff.2 ⟨b, hb, e⟩), strk_iff.1 h2⟩⟩⟩
      · rename_i h2
        exact ⟨⟨h.s.upheld hl hl2 h0 (fun b hb => ⟨fun e => h1 (strk_iff.2 ⟨b, hb, e⟩), fun e => h2 (strk_iff.2 ⟨b, hb, e⟩)⟩) hx.2 hx.1, by simp [h.f14], by simp [h.r14], top 1 (by omega) h0⟩, .inr (nfd_set hl h0 (by omega))⟩
end Go.Proofs.Ytiacgaplhndlnaa
