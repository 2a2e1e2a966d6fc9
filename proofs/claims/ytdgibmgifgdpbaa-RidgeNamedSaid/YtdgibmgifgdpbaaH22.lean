/-
  Parts of the proof, in the order in which they build: RaiseP.
-/
import Derived.Test.YtdgibmgifgdpbaaH14
import Derived.Test.YtdgibmgifgdpbaaG14
set_option linter.unusedVariables false
set_option linter.unusedSimpArgs false
namespace Go.Proofs.Ytdgibmgifgdpbaa
open Go.RowKit Go.Shelf
open Lim

/-- heights that are no lower, and by no more than u higher -/
structure Raised (hs H : List (Int × Int)) (u : Int) : Prop where
  len : H.length = hs.length
  le : ∀ c, c < hs.length → (hs.getD c (0, 0)).1 ≤ (H.getD c (0, 0)).1 ∧ (H.getD c (0, 0)).1 ≤ (hs.getD c (0, 0)).1 + u ∧ (hs.getD c (0, 0)).2 ≤ (H.getD c (0, 0)).2 ∧ (H.getD c (0, 0)).2 ≤ (hs.getD c (0, 0)).2 + u
theorem Raised.of {hs : List (Int × Int)} {c : Nat} {u lo hi : Int} (hu : 0 ≤ u) (e : (lo, hi) = hs.getD c (0, 0)) : Raised hs (hs.set c (lo + u, hi + u)) u := by
  refine ⟨by rw [List.length_set], fun k hk => ?_⟩
  rw [spget]
  by_cases h : c = k
  · subst h
    rw [if_pos ⟨rfl, hk⟩, ← e]
    dsimp only
    omega
  · rw [if_neg (fun e => h e.1)]; omega
/-- other heights on the same cells -/
theorem re_open {m : Nat} {hs H : List (Int × Int)} {ss : List Int} (ho : openErr (m : Int) hs ss = 0) (hl : H.length = hs.length) (hg : ∀ c, c < hs.length → 0 ≤ (H.getD c (0, 0)).1 ∧ (H.getD c (0, 0)).1 ≤ (H.getD c (0, 0)).2 ∧ (H.getD c (0, 0)).2 ≤ 10000) : openErr (m : Int) H ss = 0 := by
  have hz := openErr_zero ho
  have g1 : goodCount (m : Int) H ss = true := by
    have := hz.1
    unfold goodCount at this ⊢
    rw [hl]; exact this
  have g3 : badSpan H = false := by
    unfold badSpan
    rw [List.any_eq_false]
    intro k hk
    have := hg k (by have := List.mem_range.1 hk; omega)
    rw [inB_t ⟨this.1, this.2.1⟩]
    have h3 : decide (10000 < (H.getD k (0, 0)).2) = false := by rw [decide_eq_false_iff_not]; omega
    rw [h3]; decide
  have g4 : clash ⟨(m : Int).toNat, H, ss⟩ = false := hz.2.2.2.2.2
  unfold openErr
  rw [g1, hz.2.1, g3, g4, if_neg (by decide), if_neg (by decide), if_neg (by simp [hz.2.2.2.1, hz.2.2.2.2.1]), if_neg (by decide)]
theorem raise_sad {m : Nat} {hs H : List (Int × Int)} {ss : List Int} {u x y er x' y' er' : Int} (ho : openErr (m : Int) hs ss = 0) (ho' : openErr (m : Int) H ss = 0) (hr : Raised hs H u) (h : SadAns (m : Int) hs ss x y er) (h' : SadAns (m : Int) H ss x' y' er') :
    er' = er ∧ (er = 0 ∨ er = 7) ∧ (er = 0 → x ≤ x' ∧ x' ≤ x + u ∧ y ≤ y' ∧ y' ≤ y + u) := by
  have hn : hs.length = ss.length := (openErr_ok ho).hn
  have hso := SpansOk.of ho
  have hso' := SpansOk.of ho'
  have hle : ∀ c, c < ss.length → lowT ⟨m, hs, ss⟩ c ≤ lowT ⟨m, H, ss⟩ c ∧ lowT ⟨m, H, ss⟩ c ≤ lowT ⟨m, hs, ss⟩ c + u ∧ highT ⟨m, hs, ss⟩ c ≤ highT ⟨m, H, ss⟩ c ∧ highT ⟨m, H, ss⟩ c ≤ highT ⟨m, hs, ss⟩ c + u := fun c hc => by
    have := hr.le c (by omega)
    rw [low_get, low_get, high_get, high_get]
    exact this
  rcases h with ⟨h0, -⟩ | ⟨-, a1, b1, ha1, hb1, h⟩
  · exact absurd ho h0
  rcases h' with ⟨h0, -⟩ | ⟨-, a2, b2, ha2, hb2, h'⟩
  · exact absurd ho' h0
  have ha3 : IsSaddle ⟨m, hs, ss⟩ (lowT ⟨m, H, ss⟩) a2 := IsSaddle.hs ha2
  have hb3 : IsSaddle ⟨m, hs, ss⟩ (highT ⟨m, H, ss⟩) b2 := IsSaddle.hs hb2
  have hlb : ∀ c, land ⟨m, hs, ss⟩ c → lowT ⟨m, hs, ss⟩ c ≤ 10000 := fun c hl => by have := hso c hl.1; omega
  have hhb : ∀ c, land ⟨m, hs, ss⟩ c → highT ⟨m, hs, ss⟩ c ≤ 10000 := fun c hl => by have := hso c hl.1; omega
  have hlb' : ∀ c, land ⟨m, hs, ss⟩ c → lowT ⟨m, H, ss⟩ c ≤ 10000 := fun c hl => by have := hso' c hl.1; omega
  have n1 : a2 = 10001 → a1 = 10001 := fun e => IsSaddle.never ha1 ha3 hlb' e
  have n2 : a1 = 10001 → a2 = 10001 := fun e => IsSaddle.never ha3 ha1 hlb e
  have n3 : b1 = 10001 → a1 = 10001 := fun e => IsSaddle.never ha1 hb1 hhb e
  have l1 : a1 ≤ a2 := IsSaddle.mono ha1 ha3 (fun c hl => (hle c hl.1).1)
  have l2 : b1 ≤ b2 := IsSaddle.mono hb1 hb3 (fun c hl => (hle c hl.1).2.2.1)
  have up : ∀ (t t' : Nat → Int) (a a' : Int), IsSaddle ⟨m, hs, ss⟩ t a → IsSaddle ⟨m, hs, ss⟩ t' a' → (∀ c, c < ss.length → t' c ≤ t c + u) → a < 10001 → a' ≤ a + u := fun t t' a a' h h' hb ha => by
    obtain ⟨c, hl, hat, hrr⟩ := h.hit ha
    exact h'.least c _ hat (R.mono (fun x hx hle => by have := hb x hx.1; omega) (R.mono (t' := fun x => t x + u) (h' := a + u) (fun x hx hle => by show t x + u ≤ a + u; omega) hrr))
  have t1 := ha1.top
  have t2 := hb1.top
  rcases h with ⟨e1, rfl, rfl, rfl⟩ | ⟨e1, rfl, rfl, rfl⟩
  · rcases h' with ⟨e2, rfl, rfl, rfl⟩ | ⟨e2, rfl, rfl, rfl⟩
    · exact ⟨rfl, .inr rfl, fun h => by cases h⟩
    · exact absurd (n2 e1) e2
  · rcases h' with ⟨e2, rfl, rfl, rfl⟩ | ⟨e2, rfl, rfl, rfl⟩
    · exact absurd (n1 e2) e1
    · refine ⟨rfl, .inl rfl, fun _ => ⟨l1, up _ _ _ _ ha1 ha3 (fun c hc => (hle c hc).2.1) (by omega), l2, up _ _ _ _ hb1 hb3 (fun c hc => (hle c hc).2.2.2) ?_⟩⟩
      rcases Int.lt_or_le y 10001 with h | h
      · exact h
      · exact absurd (n3 (by omega)) e1
theorem raise_pass {m : Nat} {hs H : List (Int × Int)} {ss : List Int} {sea u e1 e2 : Int} {la lb : List (Int × Int)} (ho : openErr (m : Int) hs ss = 0) (ho' : openErr (m : Int) H ss = 0) (hr : Raised hs H u) (hsea : sea = 1 ∨ sea = 2) (h1 : PassAns (m : Int) hs ss sea e1 la) (h2 : PassAns (m : Int) H ss sea e2 lb) :
    e1 = 0 ∧ e2 = 0 ∧ la.length = ss.length ∧ lb.length = ss.length ∧ ∀ c, c < ss.length → (la.getD c (0, 0)).1 ≤ (lb.getD c (0, 0)).1 ∧ (la.getD c (0, 0)).2 ≤ (lb.getD c (0, 0)).2 := by
  have hn : hs.length = ss.length := (openErr_ok ho).hn
  have hso := SpansOk.of ho
  have hso' := SpansOk.of ho'
  obtain ⟨z1, a, b, ha, hb, rfl⟩ := pass_ans ho hsea h1
  obtain ⟨z2, a', b', ha', hb', rfl⟩ := pass_ans ho' hsea h2
  have hl := hr.len
  refine ⟨z1, z2, by simp [hn], by simp [hl, hn], fun c hc => ?_⟩
  rw [pspan_at a b (by omega), pspan_at a' b' (by omega)]
  have hle : ∀ c, c < ss.length → lowT ⟨m, hs, ss⟩ c ≤ lowT ⟨m, H, ss⟩ c ∧ highT ⟨m, hs, ss⟩ c ≤ highT ⟨m, H, ss⟩ c := fun c hc => by
    have := hr.le c (by omega)
    rw [low_get, low_get, high_get, high_get]
    exact ⟨this.1, this.2.2.1⟩
  have pa : IsPass ⟨m, hs, ss⟩ (lowT ⟨m, H, ss⟩) sea a' := IsPass.hs ha'
  have pb : IsPass ⟨m, hs, ss⟩ (highT ⟨m, H, ss⟩) sea b' := IsPass.hs hb'
  have l1 : a c ≤ a' c := ha.mono pa (fun c hl => (hle c hl.1).1) hc
  have l2 : b c ≤ b' c := hb.mono pb (fun c hl => (hle c hl.1).2) hc
  have hbl : ∀ c, land ⟨m, hs, ss⟩ c → lowT ⟨m, hs, ss⟩ c ≤ 10000 := fun c hl => by have := hso c hl.1; omega
  have hbh : ∀ c, land ⟨m, hs, ss⟩ c → highT ⟨m, hs, ss⟩ c ≤ 10000 := fun c hl => by have := hso c hl.1; omega
  have hbl' : ∀ c, land ⟨m, hs, ss⟩ c → lowT ⟨m, H, ss⟩ c ≤ 10000 := fun c hl => by have := hso' c hl.1; omega
  have hbh' : ∀ c, land ⟨m, hs, ss⟩ c → highT ⟨m, H, ss⟩ c ≤ 10000 := fun c hl => by have := hso' c hl.1; omega
  have n1 : a' c = 10001 → a c = 10001 := ha.never pa hbl' hc
  have n2 : a c = 10001 → a' c = 10001 := pa.never ha hbl hc
  have n3 : a c = 10001 → b c = 10001 := hb.never ha hbl hc
  have n4 : a' c = 10001 → b' c = 10001 := pb.never pa hbl' hc
  have n5 : b c = 10001 → a c = 10001 := ha.never hb hbh hc
  have n6 : b' c = 10001 → a c = 10001 := ha.never pb hbh' hc
  have b0 : 0 ≤ a c := ha.low (by omega) (fun c hl => (hso c hl.1).1) hc
  unfold pspan
  by_cases q : a c = 10001
  · rw [if_pos ⟨q, n3 q⟩, if_pos ⟨n2 q, n4 (n2 q)⟩]
    exact ⟨Int.le_refl _, Int.le_refl _⟩
  · rw [if_neg (fun h => q h.1), if_neg (fun h => q (n1 h.1))]
    exact ⟨l1, l2⟩
/-- land that floods: what reached the sea does, no higher -/
theorem flood_reach {m : Nat} {hs : List (Int × Int)} {ss : List Int} {k : Nat} {sea : Int} (hg : Gd.Ok ⟨m, hs, ss⟩) (hg' : Gd.Ok ⟨m, hs, ss.set k sea⟩) (hk : k < ss.length) (h0 : ss.getD k 0 = 0) (hsea : sea = 1 ∨ sea = 2) {t : Nat → Int} {h : Int} {i : Nat} (hr : R ⟨m, hs, ss⟩ t sea h i) (hi : i ≠ k) : R ⟨m, hs, ss.set k sea⟩ t sea h i := by
  have hl : (ss.set k sea).length = ss.length := List.length_set
  have hnb : ∀ a b, nb ⟨m, hs, ss⟩ a b → nb ⟨m, hs, ss.set k sea⟩ a b := fun a b h => by unfold nb Gd.n at h ⊢; simpa only [hl] using h
  have hla : ∀ c, land ⟨m, hs, ss⟩ c → c ≠ k → land ⟨m, hs, ss.set k sea⟩ c := fun c hc hne => ⟨by show c < (ss.set k sea).length; rw [hl]; exact hc.1, by show (ss.set k sea).getD c 0 = 0; rw [getD_set, if_neg (fun e => hne e.1.symm)]; exact hc.2⟩
  induction hr with
  | @base c ha hb =>
    obtain ⟨j, hj, hjs⟩ := (at_nb hg ha.1.1).1 hb
    have hjs : ss.getD j 0 = sea := hjs
    refine .base ⟨hla c ha.1 hi, ha.2⟩ ((at_nb hg' (hla c ha.1 hi).1).2 ⟨j, hnb c j hj, ?_⟩)
    show (ss.set k sea).getD j 0 = sea
    rw [getD_set, if_neg (fun e => by rw [← e.1, h0] at hjs; omega)]
    exact hjs
  | @step c j ha hn hr ih =>
    by_cases e : j = k
    · subst e
      refine .base ⟨hla c ha.1 hi, ha.2⟩ ((at_nb hg' (hla c ha.1 hi).1).2 ⟨j, hnb c j hn, ?_⟩)
      show (ss.set j sea).getD j 0 = sea
      rw [getD_set, if_pos ⟨rfl, hk⟩]
    · exact .step ⟨hla c ha.1 hi, ha.2⟩ (hnb c j hn) (ih e)
theorem flood_pass {m : Nat} {hs : List (Int × Int)} {ss : List Int} {k : Nat} {sea e1 e2 : Int} {la lb : List (Int × Int)} (ho : openErr (m : Int) hs ss = 0) (ho' : openErr (m : Int) hs (ss.set k sea) = 0) (hk : k < ss.length) (h0 : ss.getD k 0 = 0) (hsea : sea = 1 ∨ sea = 2) (h1 : PassAns (m : Int) hs ss sea e1 la) (h2 : PassAns (m : Int) hs (ss.set k sea) sea e2 lb) :
    e1 = 0 ∧ e2 = 0 ∧ la.length = ss.length ∧ lb.length = ss.length ∧ ∀ c, c < ss.length → c ≠ k → (la.getD c (0, 0)).1 ≠ -1 → (lb.getD c (0, 0)).1 ≠ -1 → (lb.getD c (0, 0)).1 ≤ (la.getD c (0, 0)).1 ∧ (lb.getD c (0, 0)).2 ≤ (la.getD c (0, 0)).2 := by
  have hg : Gd.Ok ⟨m, hs, ss⟩ := openErr_ok ho
  have hg' : Gd.Ok ⟨m, hs, ss.set k sea⟩ := openErr_ok ho'
  have hn : hs.length = ss.length := hg.hn
  obtain ⟨z1, a, b, ha, hb, rfl⟩ := pass_ans ho hsea h1
  obtain ⟨z2, a', b', ha', hb', rfl⟩ := pass_ans ho' hsea h2
  refine ⟨z1, z2, by simp [hn], by simp [hn], fun c hc hne => ?_⟩
  rw [pspan_at a b (by omega), pspan_at a' b' (by omega)]
  have hso := SpansOk.of ho
  have hbl : ∀ c, land ⟨m, hs, ss⟩ c → highT ⟨m, hs, ss⟩ c ≤ 10000 := fun c hl => by have := hso c hl.1; omega
  have n5 : b c = 10001 → a c = 10001 := ha.never hb hbl hc
  have t1 := ha.top c hc
  have t2 := hb.top c hc
  have hc' : c < Gd.n ⟨m, hs, ss.set k sea⟩ := by show c < (ss.set k sea).length; rw [List.length_set]; exact hc
  unfold pspan
  by_cases q : a c = 10001 ∧ b c = 10001
  · rw [if_pos q]; intro h; exact absurd rfl h
  · rw [if_neg q]
    intro _
    have la : a' c ≤ a c := by
      rcases Int.lt_or_le (a c) 10001 with h | h
      · exact ha'.least c hc' _ (flood_reach hg hg' hk h0 hsea (ha.sound c hc h) hne)
      · have := ha'.top c hc'; omega
    have lb : b' c ≤ b c := by
      rcases Int.lt_or_le (b c) 10001 with h | h
      · exact hb'.least c hc' _ (flood_reach hg hg' hk h0 hsea (hb.sound c hc h) hne)
      · have := hb'.top c hc'; omega
    by_cases q' : a' c = 10001 ∧ b' c = 10001
    · rw [if_pos q']; intro h; exact absurd rfl h
    · rw [if_neg q']; intro _; exact ⟨la, lb⟩
/-- the heights of a wall -/
structure Wall (hs H : List (Int × Int)) (L : List Nat) : Prop where
  len : H.length = hs.length
  on : ∀ c, c < hs.length → c ∈ L → H.getD c (0, 0) = (5000, 5000)
  off : ∀ c, c < hs.length → ¬ c ∈ L → H.getD c (0, 0) = hs.getD c (0, 0)
theorem wall_one {m : Nat} {hs : List (Int × Int)} {ss : List Int} {L : List Nat} {t t' : Nat → Int} {a a' : Int} (ho : openErr (m : Int) hs ss = 0) (hp : PartsG ⟨m, hs, ss⟩ (nats L)) (ha : IsSaddle ⟨m, hs, ss⟩ t a) (hne : a ≠ 10001) (ha' : IsSaddle ⟨m, hs, ss⟩ t' a')
    (on : ∀ c, land ⟨m, hs, ss⟩ c → c ∈ L → t' c = 5000) (le : ∀ c, land ⟨m, hs, ss⟩ c → t' c ≤ 5000) : a' = 5000 := by
  have hok : Gd.Ok ⟨m, hs, ss⟩ := openErr_ok ho
  have h1 : a' ≤ 5000 := by
    have := ha.top
    obtain ⟨c, hl, hat, hr⟩ := ha.hit (by omega)
    exact ha'.least c _ hat (R.mono (fun x hx _ => le x hx) hr)
  have h2 : 5000 ≤ a' := by
    rcases Int.lt_or_le a' 5000 with h | h
    · exfalso
      obtain ⟨c, hl, hat, hr⟩ := ha'.hit (by omega)
      have hr2 : Re ⟨m, hs, ss⟩ (fun c => land ⟨m, hs, ss⟩ c ∧ ¬ (c : Int) ∈ nats L) (fun c => atB ⟨m, hs, ss⟩ c 2 = true) c := Re.mono (fun x hx => ⟨hx.1, fun hm => by
        have := on x hx.1 (mem_nats.1 hm)
        have := hx.2
        omega⟩) (fun _ _ hs => hs) hr
      obtain ⟨d, hd, hrd⟩ := back_way hok (B := fun c => atB ⟨m, hs, ss⟩ c 1 = true) hat (fun x hx => hx.1.1) hr2
      have := hp d hrd
      rw [hd] at this
      cases this
    · exact h
  omega
theorem wall_sad {m : Nat} {hs H : List (Int × Int)} {ss : List Int} {L : List Nat} {x y x' y' er' : Int} (ho : openErr (m : Int) hs ss = 0) (ho' : openErr (m : Int) H ss = 0) (hw : Wall hs H L) (hb : ∀ c, c < hs.length → (hs.getD c (0, 0)).2 ≤ 5000) (hp : PartsG ⟨m, hs, ss⟩ (nats L)) (h : SadAns (m : Int) hs ss x y 0) (h' : SadAns (m : Int) H ss x' y' er') :
    er' = 0 ∧ x' = 5000 ∧ y' = 5000 := by
  have hn : hs.length = ss.length := (openErr_ok ho).hn
  have hso := SpansOk.of ho
  have on1 : ∀ c, land ⟨m, hs, ss⟩ c → c ∈ L → lowT ⟨m, H, ss⟩ c = 5000 := fun c hl hc => by have hc2 : c < ss.length := hl.1; rw [low_get, hw.on c (by omega) hc]
  have on2 : ∀ c, land ⟨m, hs, ss⟩ c → c ∈ L → highT ⟨m, H, ss⟩ c = 5000 := fun c hl hc => by have hc2 : c < ss.length := hl.1; rw [high_get, hw.on c (by omega) hc]
  have le2 : ∀ c, land ⟨m, hs, ss⟩ c → highT ⟨m, H, ss⟩ c ≤ 5000 := fun c hl => by
    by_cases hc : c ∈ L
    · rw [on2 c hl hc]; omega
    · have hc2 : c < ss.length := hl.1
      rw [high_get, hw.off c (by omega) hc]; exact hb c (by omega)
  have le1 : ∀ c, land ⟨m, hs, ss⟩ c → lowT ⟨m, H, ss⟩ c ≤ 5000 := fun c hl => by have h1 := SpansOk.of ho' c hl.1; have := le2 c hl; omega
  rcases h with ⟨h0, -⟩ | ⟨-, a, b, ha, hb1, h⟩
  · exact absurd ho h0
  rcases h' with ⟨h0, -⟩ | ⟨-, a', b', ha', hb', h'⟩
  · exact absurd ho' h0
  have hne : a ≠ 10001 := by
    rcases h with ⟨-, -, -, e⟩ | ⟨e, -, -, -⟩
    · cases e
    · exact e
  have e1 : a' = 5000 := wall_one ho hp ha hne (IsSaddle.hs ha') on1 le1
  have e2 : b' = 5000 := wall_one ho hp ha hne (IsSaddle.hs hb') on2 le2
  rcases h' with ⟨e3, -⟩ | ⟨-, rfl, rfl, rfl⟩
  · omega
  · exact ⟨rfl, e1, e2⟩
/-- the heights of a wall so far -/
structure WallTo (hs : List (Int × Int)) (L : List Nat) (j : Nat) (H : List (Int × Int)) : Prop where
  len : H.length = hs.length
  on : ∀ c, c < hs.length → c ∈ L.take j → H.getD c (0, 0) = (5000, 5000)
  off : ∀ c, c < hs.length → ¬ c ∈ L.take j → H.getD c (0, 0) = hs.getD c (0, 0)
theorem WallTo.put {hs : List (Int × Int)} {L : List Nat} {j : Nat} {H : List (Int × Int)} (h : WallTo hs L j H) (hj : j < L.length) : WallTo hs L (j + 1) (H.set (L.getD j 0) (5000, 5000)) := by
  have e : L.take (j + 1) = L.take j ++ [L.getD j 0] := by rw [List.take_succ_eq_append_getElem hj, List.getD_eq_getElem?_getD, List.getElem?_eq_getElem hj]; rfl
  refine ⟨by rw [List.length_set, h.len], fun c hc hm => ?_, fun c hc hm => ?_⟩
  · rw [spget]
    by_cases ec : L.getD j 0 = c
    · rw [if_pos ⟨ec, by rw [h.len]; exact hc⟩]
    · rw [if_neg (fun e => ec e.1)]
      rw [e, List.mem_append, List.mem_singleton] at hm
      exact h.on c hc (hm.elim id (fun h => absurd h.symm ec))
  · rw [e, List.mem_append, List.mem_singleton] at hm
    rw [spget, if_neg (fun e => hm (.inr e.1.symm))]
    exact h.off c hc (fun h => hm (.inl h))
theorem WallTo.done {hs : List (Int × Int)} {L : List Nat} {H : List (Int × Int)} (h : WallTo hs L L.length H) : Wall hs H L := ⟨h.len, fun c hc hm => h.on c hc (by rw [List.take_length]; exact hm), fun c hc hm => h.off c hc (by rw [List.take_length]; exact hm)⟩
theorem sad_range {m : Nat} {hs : List (Int × Int)} {ss : List Int} {x y er : Int} (ho : openErr (m : Int) hs ss = 0) (h : SadAns (m : Int) hs ss x y er) : 0 ≤ x ∧ x ≤ 10000 ∧ 0 ≤ y ∧ y ≤ 10000 := by
  have hso := SpansOk.of ho
  rcases h with ⟨h0, -⟩ | ⟨-, a, b, ha, hb, h⟩
  · exact absurd ho h0
  have hhb : ∀ c, land ⟨m, hs, ss⟩ c → highT ⟨m, hs, ss⟩ c ≤ 10000 := fun c hl => by have := hso c hl.1; omega
  have n3 : b = 10001 → a = 10001 := fun e => IsSaddle.never ha hb hhb e
  have a0 : 0 ≤ a := IsSaddle.low (g := ⟨m, hs, ss⟩) ha (by omega) (fun c hl => (hso c hl.1).1)
  have b0 : 0 ≤ b := IsSaddle.low (g := ⟨m, hs, ss⟩) hb (by omega) (fun c hl => Int.le_trans (hso c hl.1).1 (hso c hl.1).2.1)
  have ta := ha.top
  have tb := hb.top
  rcases h with ⟨-, rfl, rfl, -⟩ | ⟨e, rfl, rfl, -⟩
  · omega
  · have : y ≠ 10001 := fun e2 => e (n3 e2)
    omega
theorem fold_nat {v : Int} {n : Nat} (w : World) (hn : 0 < n ∧ n ≤ 1000000) : Calls Try.prog 30 #[.int .i64 v, .int .i64 (n : Int)] w fun e w' => ∃ c : Nat, e = .returned (.int .i64 (c : Int)) ∧ c < n ∧ w = w' :=
  (fold_any (v := v) w (by omega)).mono fun e w' ⟨r, he, hr, hw⟩ => ⟨r.toNat, by rw [he, Int.toNat_of_nonneg hr.1], by omega, hw.symm⟩
end Go.Proofs.Ytdgibmgifgdpbaa
