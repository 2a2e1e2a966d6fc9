/-
  Parts of the proof, in the order in which they build: LawD, ProveP.
-/
import Derived.Test.YtdgibmgifgdpbaaH3
import Derived.Test.YtdgibmgifgdpbaaG14
import Derived.Test.YtdgibmgifgdpbaaG12
import Derived.Test.YtdgibmgifgdpbaaG15
import Derived.Test.YtdgibmgifgdpbaaH14
import Derived.Test.YtdgibmgifgdpbaaH12
set_option linter.unusedVariables false
set_option linter.unusedSimpArgs false
/-
  What is returned is what is asked: crossings, ridges, and ridges that lack a cell, in plain words.
-/
namespace Go.Proofs.Ytdgibmgifgdpbaa
open Go.RowKit Go.Shelf
open Lim

theorem ends_range {wd : Int} {hs : List (Int × Int)} {ss : List Int} (he : openErr wd hs ss = 0) {c : Nat} (hc : c < ss.length) : 0 ≤ lowT ⟨wd.toNat, hs, ss⟩ c ∧ lowT ⟨wd.toNat, hs, ss⟩ c ≤ highT ⟨wd.toNat, hs, ss⟩ c ∧ highT ⟨wd.toNat, hs, ss⟩ c ≤ 10000 := by
  have h1 := (openErr_ok he).hn
  rw [lowT_eq, highT_eq]
  exact goodSpan (openErr_zero he).2.2.1 (show c < hs.length by simp [Gd.n] at h1; omega)
theorem maxL_le {l : List Int} : ∀ {f y : Int}, f ≤ y → (∀ x ∈ l, x ≤ y) → maxL l f ≤ y := by
  induction l with
  | nil => intro f y h _; exact h
  | cons a l ih => intro f y h hx; exact ih (by have := hx a (by simp); omega) (fun x h' => hx x (by simp [h']))
theorem getD_nats {L : List Nat} {k : Nat} (hk : k < L.length) : (nats L).getD k 0 = (L[k] : Int) := by
  rw [List.getD_eq_getElem?_getD]
  unfold nats
  rw [List.getElem?_map, List.getElem?_eq_getElem hk]
  rfl
theorem land_nats {wd : Int} {hs : List (Int × Int)} {ss : List Int} {L : List Nat} (he : openErr wd hs ss = 0) (h : ∀ c ∈ L, land ⟨wd.toNat, hs, ss⟩ c) : landErr wd hs ss (nats L) = 0 := by
  unfold landErr
  rw [if_neg (by simp [he]), if_neg]
  intro hany
  obtain ⟨x, hx, ho⟩ := List.any_eq_true.1 hany
  obtain ⟨c, hc, rfl⟩ := List.mem_map.1 hx
  have h1 := h c hc
  have hl := (openErr_ok he).hn
  have h2 : c < ss.length := h1.1
  have h3 : ss.getD c 0 = 0 := h1.2
  unfold offLand at ho
  rw [inB_iff.2 ⟨by show (0 : Int) ≤ (c : Int); omega, by show (c : Int) ≤ _; simp [Gd.n] at hl; omega⟩] at ho
  have e : (Int.ofNat c).toNat = c := rfl
  rw [e, h3] at ho
  simp at ho
theorem crossing_crosses {wd : Int} {hs : List (Int × Int)} {ss : List Int} {L : List Nat} {x y er : Int} {h : Int} (he : openErr wd hs ss = 0)
    (hw : IsWay ⟨wd.toNat, hs, ss⟩ (Low ⟨wd.toNat, hs, ss⟩ (highT ⟨wd.toNat, hs, ss⟩) h) (fun c => atB ⟨wd.toNat, hs, ss⟩ c 1 = true) (fun c => atB ⟨wd.toNat, hs, ss⟩ c 2) L) (ha : CrossAns wd hs ss (nats L) x y er) : er = 0 ∧ y ≤ h := by
  have hl := land_nats (L := L) he (fun c hc => (hw.cells c hc).1)
  have hg := openErr_ok he
  have hpos : 0 < L.length := by obtain ⟨b, r, rfl, -⟩ := hw.first; simp
  have hc : isCross ⟨wd.toNat, hs, ss⟩ (nats L) := by
    refine ⟨by rw [nats_length]; exact hpos, ?_, ?_, ?_⟩
    · rw [getD_nats hpos]
      obtain ⟨b, r, e, hb⟩ := hw.first
      subst e
      exact hb
    · rw [nats_length, getD_nats (by omega)]
      obtain ⟨l, b, e, hb⟩ := hw.last
      subst e
      simpa using hb
    · intro j hj
      rw [nats_length] at hj
      rw [getD_nats (k := j) (by omega), getD_nats (k := j + 1) hj]
      have e : L = L.take j ++ L[j] :: L[j + 1] :: L.drop (j + 2) := by
        rw [List.getElem_cons_drop, List.getElem_cons_drop, List.take_append_drop]
      have := hw.adj _ _ _ _ e
      exact nb_symm hg (hw.cells _ (List.getElem_mem (by omega))).1.1 this
  have hy : maxL (hisOf hs (nats L)) 0 ≤ h := by
    have hin : ∀ c ∈ L, 0 ≤ highT ⟨wd.toNat, hs, ss⟩ c ∧ highT ⟨wd.toNat, hs, ss⟩ c ≤ h := fun c hc =>
      ⟨by have := ends_range he (hw.cells c hc).1.1; omega, (hw.cells c hc).2⟩
    refine maxL_le ?_ ?_
    · have := hin L[0] (List.getElem_mem hpos); omega
    · intro u hu
      unfold hisOf at hu
      obtain ⟨v, hv, rfl⟩ := List.mem_map.1 hu
      obtain ⟨c, hc, rfl⟩ := List.mem_map.1 hv
      have := (hin c hc).2
      rw [highT_eq] at this
      exact this
  rcases ha with ⟨h1, -⟩ | ⟨-, h1, -⟩ | ⟨-, -, rfl, rfl, rfl⟩
  · exact absurd hl h1
  · exact absurd hc h1
  · exact ⟨rfl, hy⟩
theorem ridge_rising {L : List Nat} (h : L.Pairwise (· < ·)) : rising (nats L) := by
  intro j h1 h2
  rw [nats_length] at h2
  rw [getD_nats (by omega), getD_nats h2]
  have := List.pairwise_iff_getElem.1 h (j - 1) j (by omega) h2 (by omega)
  omega
theorem saddle_range {wd : Int} {hs : List (Int × Int)} {ss : List Int} {x y : Int} (h : SadAns wd hs ss x y 0) : openErr wd hs ss = 0 ∧ IsSaddle ⟨wd.toNat, hs, ss⟩ (lowT ⟨wd.toNat, hs, ss⟩) x ∧ inB x 0 10000 = true := by
  rcases h with ⟨h0, -, -, h1⟩ | ⟨h0, a, b, ha, hb, ⟨-, -, -, h1⟩ | ⟨h1, rfl, rfl, -⟩⟩
  · exact absurd h1.symm h0
  · omega
  · refine ⟨h0, ha, inB_iff.2 ?_⟩
    have h2 := ha.top
    obtain ⟨c, hl, -, hR⟩ := ha.hit (by omega)
    have h3 := (Re.in_A hR).2
    have h4 := ends_range h0 hl.1
    omega
theorem ridge_parts {wd : Int} {hs : List (Int × Int)} {ss : List Int} {L : List Nat} {x y er : Int} {d : Bool} (hs0 : SadAns wd hs ss x y 0) (h : RInv ⟨wd.toNat, hs, ss⟩ x L L.length) (ha : PartAns wd hs ss (nats L) x d er) : er = 0 ∧ d = true := by
  obtain ⟨he, -, hx⟩ := saddle_range hs0
  have hl := land_nats he (fun c hc => (h.cells c hc).1)
  have hr := ridge_rising h.up
  rcases ha with ⟨h1, -⟩ | ⟨-, h1, -⟩ | ⟨-, -, h1, -⟩ | ⟨-, -, -, rfl, h1⟩
  · exact absurd hl h1
  · exact absurd hr h1
  · rw [hx] at h1; cases h1
  · refine ⟨rfl, h1.2 ⟨fun c hc => ?_, h.parts⟩⟩
    obtain ⟨k, hk, rfl⟩ := List.mem_map.1 hc
    have := (h.cells k hk).2
    rw [lowT_eq] at this
    exact this
theorem ridge_needs {wd : Int} {hs : List (Int × Int)} {ss : List Int} {L : List Nat} {x y er : Int} {d : Bool} {i : Nat} (hs0 : SadAns wd hs ss x y 0) (h : RInv ⟨wd.toNat, hs, ss⟩ x L L.length) (hi : i < L.length) (ha : PartAns wd hs ss (nats (L.eraseIdx i)) x d er) : er = 0 ∧ d = false := by
  obtain ⟨he, -, hx⟩ := saddle_range hs0
  have hsub : ∀ c ∈ L.eraseIdx i, c ∈ L := fun c hc => (List.eraseIdx_sublist _ _).subset hc
  have hl := land_nats he (fun c hc => (h.cells c (hsub c hc)).1)
  have hr := ridge_rising (h.up.sublist (List.eraseIdx_sublist L i))
  rcases ha with ⟨h1, -⟩ | ⟨-, h1, -⟩ | ⟨-, -, h1, -⟩ | ⟨-, -, -, rfl, h1⟩
  · exact absurd hl h1
  · exact absurd hr h1
  · rw [hx] at h1; cases h1
  · refine ⟨rfl, ?_⟩
    cases d with
    | false => rfl
    | true => exact absurd (h1.1 rfl).2 (h.need i hi hi)
theorem CrossAns.unique {wd : Int} {hs : List (Int × Int)} {ss xs : List Int} {x y er x' y' er' : Int} (h : CrossAns wd hs ss xs x y er) (k : CrossAns wd hs ss xs x' y' er') : x = x' ∧ y = y' ∧ er = er' := by
  rcases h with ⟨h0, rfl, rfl, rfl⟩ | ⟨h0, h1, rfl, rfl, rfl⟩ | ⟨h0, h1, rfl, rfl, rfl⟩ <;> rcases k with ⟨k0, rfl, rfl, rfl⟩ | ⟨k0, k1, rfl, rfl, rfl⟩ | ⟨k0, k1, rfl, rfl, rfl⟩ <;> first | exact ⟨rfl, rfl, rfl⟩ | exact absurd h0 k0 | exact absurd k0 h0 | exact absurd h1 k1 | exact absurd k1 h1
theorem PartAns.unique {wd : Int} {hs : List (Int × Int)} {ss xs : List Int} {h : Int} {d d' : Bool} {er er' : Int} (a : PartAns wd hs ss xs h d er) (k : PartAns wd hs ss xs h d' er') : d = d' ∧ er = er' := by
  rcases a with ⟨h0, rfl, rfl⟩ | ⟨h0, h1, rfl, rfl⟩ | ⟨h0, h1, h2, rfl, rfl⟩ | ⟨h0, h1, h2, rfl, h3⟩ <;> rcases k with ⟨k0, rfl, rfl⟩ | ⟨k0, k1, rfl, rfl⟩ | ⟨k0, k1, k2, rfl, rfl⟩ | ⟨k0, k1, k2, rfl, k3⟩ <;> first | exact ⟨rfl, rfl⟩ | exact absurd h0 k0 | exact absurd k0 h0 | exact absurd h1 k1 | exact absurd k1 h1 | exact absurd (h2.symm.trans k2) (by decide) | exact ⟨Bool.eq_iff_iff.2 (h3.trans k3.symm), rfl⟩
end Go.Proofs.Ytdgibmgifgdpbaa
/-
  RidgeProved: what a ridge proves, and what a crossing does: plain laws.
-/
namespace Go.Proofs.Ytdgibmgifgdpbaa
open Lim

theorem mem_maxL {l : List Int} : ∀ {f x : Int}, x ∈ l ∨ x ≤ f → x ≤ maxL l f := by
  induction l with
  | nil => intro f x h; rcases h with h | h; cases h; exact h
  | cons a l ih =>
    intro f x h
    refine ih ?_
    rcases h with h | h
    · rcases List.mem_cons.1 h with rfl | h
      · exact .inr (by omega)
      · exact .inl h
    · exact .inr (by omega)
/-- what parts the seas, and is as high as h, is no higher than the saddle -/
theorem PartsG.saddle {g : Gd} (hg : g.Ok) {xs : List Int} {t : Nat → Int} {r h : Int} (hp : PartsG g xs) (hx : ∀ c : Nat, (c : Int) ∈ xs → h ≤ t c) (hr : IsSaddle g t r) (hr1 : r < 10001) : h ≤ r := by
  rcases Int.lt_or_le r h with hlt | hle
  · obtain ⟨c, hl, ha, hR⟩ := hr.hit hr1
    have h1 : Re g (fun c => land g c ∧ ¬ (c : Int) ∈ xs) (fun c => atB g c 2 = true) c := Re.mono (fun k hk => ⟨hk.1, fun hm => by have := hx k hm; have := hk.2; omega⟩) (fun _ _ hs => hs) hR
    obtain ⟨k, hk, h2⟩ := Re.turn (T := fun c => atB g c 1 = true) hg (fun c hc => hc.1.1) h1 (.base (Re.in_A h1) ha)
    have h3 := hp k hk
    have h2 : atB g k 2 = true := h2
    rw [h3] at h2
    cases h2
  · exact hle
/-- nothing parts what is parted -/
theorem PartsG.none {g : Gd} (hg : g.Ok) {t : Nat → Int} (hb : ∀ c, land g c → t c ≤ 10000) (hr : IsSaddle g t 10001) : PartsG g [] := by
  intro c hc
  cases h : atB g c 2 with
  | false => rfl
  | true =>
    obtain ⟨k, hk, h2⟩ := Re.turn (T := fun c => atB g c 2 = true) hg (fun c hc => hc.1.1) hc (.base (Re.in_A hc) h)
    have h3 : R g t 2 10000 k := Re.mono (fun x hx => ⟨hx.1, hb x hx.1⟩) (fun _ _ hs => hs) hk
    have := hr.least k _ h2 h3
    omega
theorem prove_none {m : Nat} {hs : List (Int × Int)} {ss : List Int} {x y er : Int} {d : Bool} (ho : openErr (m : Int) hs ss = 0) (h : SadAns (m : Int) hs ss x y 7) (h' : PartAns (m : Int) hs ss [] 10000 d er) : er = 0 ∧ d = true := by
  have hg : Gd.Ok ⟨m, hs, ss⟩ := openErr_ok ho
  have hso := SpansOk.of ho
  rcases h with ⟨h0, -⟩ | ⟨-, a, b, ha, -, h⟩
  · exact absurd ho h0
  obtain rfl : a = 10001 := by
    rcases h with ⟨h, -⟩ | ⟨-, -, -, h⟩
    · exact h
    · cases h
  have hp := PartsG.none hg (fun c hl => by have := hso c hl.1; show lowT ⟨m, hs, ss⟩ c ≤ _; omega) ha
  have hl : landErr (m : Int) hs ss [] = 0 := by unfold landErr; rw [if_neg (by simp [ho]), if_neg (by simp)]
  rcases h' with ⟨h1, -⟩ | ⟨-, h1, -⟩ | ⟨-, -, h1, -⟩ | ⟨-, -, -, rfl, h1⟩
  · exact absurd hl h1
  · exact absurd (fun j h1 h2 => by cases h2) h1
  · exact absurd h1 (by decide)
  · exact ⟨rfl, h1.2 ⟨fun c hc => (by cases hc), hp⟩⟩
theorem prove_parts {m : Nat} {hs : List (Int × Int)} {ss xs : List Int} {x y k er : Int} {d : Bool} (h : SadAns (m : Int) hs ss x y 0) (h' : PartAns (m : Int) hs ss xs k d er) (hd : d = true) : k ≤ x := by
  rcases h' with ⟨-, rfl, -⟩ | ⟨-, -, rfl, -⟩ | ⟨-, -, -, rfl, -⟩ | ⟨h0, -, -, -, h1⟩
  · cases hd
  · cases hd
  · cases hd
  · obtain ⟨ho, hs1, hx⟩ := saddle_range h
    have hg : Gd.Ok ⟨m, hs, ss⟩ := openErr_ok ho
    obtain ⟨h2, h3⟩ := h1.1 hd
    have hx := inB_iff.1 hx
    refine PartsG.saddle hg h3 (fun c hc => ?_) hs1 (by omega)
    have := h2 c hc
    rw [lowT_eq]
    exact this
/-- cells of land, in their order -/
theorem prove_mine {m : Nat} {hs : List (Int × Int)} {ss : List Int} {L : List Nat} {x y k er : Int} {d : Bool} (h : SadAns (m : Int) hs ss x y 0) (hL : L.Pairwise (· < ·)) (hl : ∀ c ∈ L, c < ss.length ∧ ss.getD c 0 = 0) (hk : 0 ≤ k ∧ k ≤ 10000) (h' : PartAns (m : Int) hs ss (nats L) k d er) : er = 0 ∧ (d = true → k ≤ x) := by
  have ho := (saddle_range h).1
  refine ⟨?_, prove_parts h h'⟩
  have hz := land_nats (L := L) ho (fun c hc => hl c hc)
  have hr := ridge_rising hL
  rcases h' with ⟨h1, -⟩ | ⟨-, h1, -⟩ | ⟨-, -, h1, -⟩ | ⟨-, -, -, rfl, h1⟩
  · exact absurd hz h1
  · exact absurd hr h1
  · rw [inB_iff.2 hk] at h1; cases h1
  · rfl
theorem prove_ridge {m : Nat} {hs : List (Int × Int)} {ss : List Int} {L : List Nat} {x y er er2 : Int} {d d2 : Bool} (h : SadAns (m : Int) hs ss x y 0) (hx : x ≤ 9999) (hr : RInv ⟨m, hs, ss⟩ x L L.length) (h1 : PartAns (m : Int) hs ss (nats L) x d er) (h2 : PartAns (m : Int) hs ss (nats L) (x + 1) d2 er2) : (er = 0 ∧ d = true) ∧ er2 = 0 ∧ d2 = false := by
  refine ⟨ridge_parts h hr h1, ?_⟩
  have h0 := inB_iff.1 (saddle_range h).2.2
  obtain ⟨h3, h4⟩ := prove_mine h hr.up (fun c hc => (hr.cells c hc).1) (by omega) h2
  refine ⟨h3, ?_⟩
  cases d2 with
  | false => rfl
  | true => have := h4 rfl; omega
/-- a crossing is no lower than the saddle -/
theorem cross_reach {g : Gd} (hg : g.Ok) {xs : List Int} {t : Nat → Int} {h : Int} (hc : isCross g xs) (hl : ∀ k, k < xs.length → ∃ c : Nat, xs.getD k 0 = c ∧ land g c ∧ t c ≤ h) : ∃ c, atB g c 1 = true ∧ R g t 2 h c := by
  obtain ⟨hpos, h1, h2, hadj⟩ := hc
  have key : ∀ n j, j + n + 1 = xs.length → R g t 2 h (xs.getD j 0).toNat := by
    intro n
    induction n with
    | zero =>
      intro j hj
      obtain ⟨c, e, hc, ht⟩ := hl j (by omega)
      have e1 : xs.length - 1 = j := by omega
      rw [e1] at h2
      rw [e] at h2 ⊢
      exact .base ⟨hc, ht⟩ h2
    | succ n ih =>
      intro j hj
      obtain ⟨c, e, hc, ht⟩ := hl j (by omega)
      obtain ⟨c', e', hc', ht'⟩ := hl (j + 1) (by omega)
      have hn := hadj j (by omega)
      have hi := ih (j + 1) (by omega)
      rw [e, e'] at hn
      rw [e'] at hi
      rw [e]
      exact .step ⟨hc, ht⟩ (nb_symm hg hc'.1 hn) hi
  exact ⟨_, h1, key (xs.length - 1) 0 (by omega)⟩
theorem prove_cross {m : Nat} {hs : List (Int × Int)} {ss xs : List Int} {x y x' y' : Int} (h : SadAns (m : Int) hs ss x y 0) (h' : CrossAns (m : Int) hs ss xs x' y' 0) : x ≤ x' ∧ y ≤ y' := by
  obtain ⟨ho, hs1, -⟩ := saddle_range h
  obtain ⟨-, -, hs2, -, -⟩ := SadAns.good h
  have hg : Gd.Ok ⟨m, hs, ss⟩ := openErr_ok ho
  rcases h' with ⟨h1, -, -, h2⟩ | ⟨-, -, -, -, h2⟩ | ⟨hz, hc, rfl, rfl, -⟩
  · exact absurd h2.symm h1
  · cases h2
  · have hcell : ∀ k, k < xs.length → ∃ c : Nat, xs.getD k 0 = c ∧ land ⟨m, hs, ss⟩ c := fun k hk => by
      obtain ⟨c, e, hlt⟩ := land_cells hz k hk
      have hb := (landErr_good hz).2 _ (show xs.getD k 0 ∈ xs by rw [List.getD_eq_getElem?_getD, List.getElem?_eq_getElem hk]; exact List.getElem_mem hk)
      have hn : hs.length = ss.length := hg.hn
      refine ⟨c, e, by show c < ss.length; omega, ?_⟩
      rw [e] at hb
      unfold offLand at hb
      rw [inB_iff.2 ⟨by show (0 : Int) ≤ (c : Int); omega, by show (c : Int) ≤ _; omega⟩] at hb
      simpa using hb
    have hmem : ∀ k, k < xs.length → xs.getD k 0 ∈ xs := fun k hk => by rw [List.getD_eq_getElem?_getD, List.getElem?_eq_getElem hk]; exact List.getElem_mem hk
    refine ⟨?_, ?_⟩
    · obtain ⟨c, ha, hR⟩ := cross_reach (t := lowT ⟨m, hs, ss⟩) (h := maxL (losOf hs xs) 0) hg hc (fun k hk => by
        obtain ⟨c, e, hl⟩ := hcell k hk
        refine ⟨c, e, hl, mem_maxL (.inl ?_)⟩
        rw [low_get]
        exact List.mem_map.2 ⟨xs.getD k 0, hmem k hk, by rw [e]; rfl⟩)
      exact hs1.least c _ ha hR
    · obtain ⟨c, ha, hR⟩ := cross_reach (t := highT ⟨m, hs, ss⟩) (h := maxL (hisOf hs xs) 0) hg hc (fun k hk => by
        obtain ⟨c, e, hl⟩ := hcell k hk
        refine ⟨c, e, hl, mem_maxL (.inl ?_)⟩
        rw [high_get]
        exact List.mem_map.2 ⟨xs.getD k 0, hmem k hk, by rw [e]; rfl⟩)
      exact hs2.least c _ ha hR
theorem cross_errs {m : Nat} {hs : List (Int × Int)} {ss : List Int} {L : List Nat} {x' y' er : Int} (ho : openErr (m : Int) hs ss = 0) (hl : ∀ c ∈ L, c < ss.length ∧ ss.getD c 0 = 0) (h' : CrossAns (m : Int) hs ss (nats L) x' y' er) : er = 0 ∨ er = 9 := by
  have hz := land_nats (L := L) ho (fun c hc => hl c hc)
  rcases h' with ⟨h1, -⟩ | ⟨-, -, -, -, h2⟩ | ⟨-, -, -, -, h2⟩
  · exact absurd hz h1
  · exact .inr h2
  · exact .inl h2
/-- with all lowest heights the saddle has the one, with all highest ones the other -/
theorem prove_just {m : Nat} {hs H : List (Int × Int)} {ss T : List Int} {x y a b er : Int} {high : Bool} (h : SadAns (m : Int) hs ss x y 0) (hl : T.length = hs.length) (hT : ∀ c, c < hs.length → T.getD c 0 = if high then (hs.getD c (0, 0)).2 else (hs.getD c (0, 0)).1) (hH : Own hs T H) (h' : SadAns (m : Int) H ss a b er) : er = 0 ∧ a = (if high then y else x) ∧ b = (if high then y else x) := by
  obtain ⟨ho, hs1, -⟩ := saddle_range h
  obtain ⟨-, -, hs2, -, -⟩ := SadAns.good h
  have hn : hs.length = ss.length := (openErr_ok ho).hn
  have hin : InSp hs T := ⟨hl, fun c hc => by
    have := goodSpan (openErr_zero ho).2.2.1 hc
    rw [hT c hc]
    split <;> omega⟩
  obtain ⟨e1, -, h2⟩ := sure_saddle ho hin hH h h'
  obtain ⟨rfl, -, -, h3, -, -⟩ := h2 rfl
  have : b = if high then y else x := by
    cases high with
    | true =>
      refine IsSaddle.unique h3 (IsSaddle.extn hs2 (fun c hc => ?_))
      have := hT c (by have : c < ss.length := hc.1; omega)
      show highT ⟨m, hs, ss⟩ c = T.getD c 0
      rw [high_get, this]; rfl
    | false =>
      refine IsSaddle.unique h3 (IsSaddle.extn hs1 (fun c hc => ?_))
      have := hT c (by have : c < ss.length := hc.1; omega)
      show lowT ⟨m, hs, ss⟩ c = T.getD c 0
      rw [low_get, this]; rfl
  exact ⟨e1, this, this⟩
theorem prove_more {m : Nat} {hs : List (Int × Int)} {ss : List Int} {L : List Nat} {x y er2 : Int} {d2 : Bool} (h : SadAns (m : Int) hs ss x y 0) (hx : x ≤ 9999) (hr : RInv ⟨m, hs, ss⟩ x L L.length) (h2 : PartAns (m : Int) hs ss (nats L) (x + 1) d2 er2) : er2 = 0 ∧ d2 = false := by
  have h0 := inB_iff.1 (saddle_range h).2.2
  obtain ⟨h3, h4⟩ := prove_mine h hr.up (fun c hc => (hr.cells c hc).1) (by omega) h2
  refine ⟨h3, ?_⟩
  cases d2 with
  | false => rfl
  | true => have := h4 rfl; omega
/-- the saddle of low heights is low -/
theorem prove_range {m : Nat} {hs : List (Int × Int)} {ss : List Int} {x y : Int} (ho : openErr (m : Int) hs ss = 0) (h : SadAns (m : Int) hs ss x y 0) (hb : ∀ c, c < hs.length → (hs.getD c (0, 0)).1 ≤ 14) : 0 ≤ x ∧ x ≤ 14 := by
  obtain ⟨-, hs1, hx⟩ := saddle_range h
  have hx := inB_iff.1 hx
  have hn : hs.length = ss.length := (openErr_ok ho).hn
  refine ⟨hx.1, ?_⟩
  obtain ⟨c, hl, ha, hR⟩ := hs1.hit (by omega)
  have h2 : R ⟨m, hs, ss⟩ (lowT ⟨m, hs, ss⟩) 2 14 c := Re.mono (fun k hk => ⟨hk.1, by have := hb k (by have : k < ss.length := hk.1.1; omega); rw [low_get]; exact this⟩) (fun _ _ hs => hs) hR
  exact hs1.least c _ ha h2
theorem prove_short : ∀ {n : Nat} {L : List Nat}, L.Nodup → (∀ c ∈ L, c < n) → L.length ≤ n := by
  intro n L h1 h2
  have h := len_le (f := id) (L := L) (L' := List.range n) h1 (fun _ _ _ _ h => h) (fun a ha => List.mem_range.2 (h2 a ha))
  simpa using h
end Go.Proofs.Ytdgibmgifgdpbaa
