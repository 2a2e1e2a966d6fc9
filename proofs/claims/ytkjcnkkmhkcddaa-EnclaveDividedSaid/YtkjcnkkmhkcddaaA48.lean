/-
  Parts of the proof, in the order in which they build: EyA.
-/
import Derived.Test.YtkjcnkkmhkcddaaA44
import Derived.Test.YtkjcnkkmhkcddaaA47
import Derived.Test.YtkjcnkkmhkcddaaA14
set_option linter.unusedVariables false
set_option linter.unusedSimpArgs false
namespace Go.Proofs.Ytkjcnkkmhkcddaa
open Go.RowKit Go.Shelf
open Lim

attribute [local go_sem] Oper.semAt_some

/-- a box of a map, written or not -/
def BoxP (w0 W : World) (t : TypeId) (s : Bool) (x y : Value) : Prop := ∃ q a b, y = .pointer (some ⟨q, 0, none⟩) ∧ w0.heap.size ≤ q ∧ W.heap[q]? = some (.cells #[a, b] t (0, 0)) ∧ (s = true → x = .agg #[a, b])
def RowP (w0 W : World) (wd : Int) (os : List Int) (x : Value) : Prop := ∃ v, x = .agg #[.int .i64 wd, v] ∧ W.ownsRow w0.heap.size 3 1 v os.length (ints os)
/-- two clones of a map, one of a list, two boxes -/
structure CloP (w0 : World) (wd : Int) (os xs : List Int) (dA dB dC kA kB sA sB : Bool) (xA xB xC yA yB : Value) (W : World) : Prop where
  be : Below w0.heap.size w0 W
  cA : dA = true → RowP w0 W wd os xA
  cB : dB = true → RowP w0 W wd os xB
  cC : dC = true → W.ownsRow w0.heap.size 3 1 xC xs.length (ints xs)
  aA : kA = true → BoxP w0 W 24 sA xA yA
  aB : kB = true → BoxP w0 W 28 sB xB yB
  tA : sA = true → dA = true ∧ kA = true
  tB : sB = true → dB = true ∧ kB = true
theorem BoxP.grow {w0 W W' : World} {t : TypeId} {s : Bool} {x y : Value} (h : BoxP w0 W t s x y) (hb : Below W.heap.size W W') : BoxP w0 W' t s x y := by
  obtain ⟨q, a, b, h1, h2, h3, h4⟩ := h
  exact ⟨q, a, b, h1, h2, (hb.block q (Array.getElem?_eq_some_iff.1 h3).1).trans h3, h4⟩
theorem RowP.grow {w0 W W' : World} {wd : Int} {os : List Int} {x : Value} (h : RowP w0 W wd os x) (hb : Below W.heap.size W W') : RowP w0 W' wd os x := by
  obtain ⟨v, h1, h2⟩ := h
  exact ⟨v, h1, owns_below h2 hb⟩
section
variable {w0 W W' : World} {wd : Int} {os xs : List Int} {dA dB dC kA kB sA sB : Bool} {xA xB xC yA yB : Value}
theorem CloP.grow (H : CloP w0 wd os xs dA dB dC kA kB sA sB xA xB xC yA yB W) (hb : Below W.heap.size W W') : CloP w0 wd os xs dA dB dC kA kB sA sB xA xB xC yA yB W' :=
  ⟨H.be.trans (hb.mono H.be.size), fun h => (H.cA h).grow hb, fun h => (H.cB h).grow hb, fun h => owns_below (H.cC h) hb, fun h => (H.aA h).grow hb, fun h => (H.aB h).grow hb, H.tA, H.tB⟩
end
/-! Answers are the same. -/
theorem Leads.congr {m : Mp} {r r' : Nat → Nat} (e : ∀ p, p < m.n → r p = r' p) {i j : Nat} {L : List Nat} (h : Leads m r i j L) : Leads m r' i j L :=
  ⟨h.lt, fun p hp => by rw [← e p (h.lt p hp)]; exact h.free p hp, h.adj, by
    obtain ⟨b, s, e1, h1⟩ := h.first
    exact ⟨b, s, e1, by rw [← e b (h.lt b (by rw [e1]; simp))]; exact h1⟩, h.last⟩
theorem reg_same {m : Mp} {r r' : Nat → Nat} {k k' : Nat} (hr : IsReg m r) (hr' : IsReg m r') (hk : IsMany m r k) (hk' : IsMany m r' k') : (∀ p, p < m.n → r p = r' p) ∧ k = k' :=
  ⟨hr.unique hr', (hk.congr (hr.unique hr')).unique hk'⟩
theorem LeAns.unique {wd : Int} {os : List Int} {i j : Int} {xs : List Int} {w w' v v' : World} {e e' : Ending} (h : LeAns wd os i j xs w e w') (h' : LeAns wd os i j xs v e' v') : e = e' := by
  rcases h with ⟨-, ⟨he, rfl⟩ | ⟨he, r, k, hr, hk, h⟩⟩
  · rcases h' with ⟨-, ⟨-, rfl⟩ | ⟨he', -⟩⟩
    · rfl
    · exact absurd he' he
  · rcases h' with ⟨-, ⟨he', -⟩ | ⟨-, r', k', hr', hk', h'⟩⟩
    · exact absurd he he'
    · obtain ⟨hrr, rfl⟩ := reg_same hr hr' hk hk'
      rcases h with ⟨ha, rfl⟩ | ⟨ha, hin, rfl⟩ | ⟨ha, hin, z, rfl, hz⟩
      · rcases h' with ⟨-, rfl⟩ | ⟨ha', -⟩ | ⟨ha', -⟩
        · rfl
        · exact absurd ha' ha
        · exact absurd ha' ha
      · rcases h' with ⟨ha', -⟩ | ⟨-, -, rfl⟩ | ⟨-, hin', -⟩
        · exact absurd ha ha'
        · rfl
        · exact absurd hin' hin
      · rcases h' with ⟨ha', -⟩ | ⟨-, hin', -⟩ | ⟨-, -, z', rfl, hz'⟩
        · exact absurd ha ha'
        · exact absurd hin hin'
        · have e : z = z' := by
            rw [Bool.eq_iff_iff, hz, hz']
            exact ⟨fun h => h.congr hrr, fun h => h.congr (fun p hp => (hrr p hp).symm)⟩
          rw [e]
theorem Leads.ans {wd : Int} {os : List Int} {i j : Int} {r : Nat → Nat} {k : Nat} {L : List Nat} {w w' : World} {e : Ending} (he : errE wd os = 0) (hr : IsReg ⟨wd.toNat, os⟩ r) (hk : IsMany ⟨wd.toNat, os⟩ r k) (ha : askE i j k = 0) (hL : Leads ⟨wd.toNat, os⟩ r i.toNat j.toNat L) (h : LeAns wd os i j (L.map Int.ofNat) w e w') : e = .returned (.tuple #[.bool true, .int .i64 0]) := by
  have hb := h.1
  refine h.unique (v := w) (v' := w') ⟨hb, .inr ⟨he, r, k, hr, hk, .inr (.inr ⟨ha, fun x hx => ?_, true, rfl, ?_⟩)⟩⟩
  · obtain ⟨p, hp, rfl⟩ := List.mem_map.1 hx
    have := hL.lt p hp
    exact ⟨Int.natCast_nonneg _, by show (p : Int) < os.length; have h2 : p < os.length := this; omega⟩
  · rw [List.map_map]
    have e : (L.map (Int.toNat ∘ Int.ofNat)) = L := (List.map_congr_left (g := id) (fun x _ => rfl)).trans (List.map_id L)
    rw [e]
    exact ⟨fun _ => hL, fun _ => rfl⟩
theorem OuAns.same {wd : Int} {os : List Int} {i j : Int} {w w' : World} {e : Ending} (h : OuAns wd os i j w e w') : ∃ (v : Value) (er : Int), e = .returned (.tuple #[v, .int .i64 er]) ∧ Below w.heap.size w w' ∧ (∀ w2 e2 w3, ROuAns wd os i j w2 e2 w3 → e2 = .returned (.int .i64 er)) ∧
    ((er ≠ 0 ∧ v = .slice none 0 0) ∨ (er = 0 ∧ ∃ L : List Nat, L.length ≤ 300 ∧ w'.ownsRow w.heap.size 3 1 v L.length (ints (L.map Int.ofNat)) ∧ ∀ w2 e2 w3, LeAns wd os i j (L.map Int.ofNat) w2 e2 w3 → e2 = .returned (.tuple #[.bool true, .int .i64 0]))) := by
  obtain ⟨hb, ⟨he, rfl⟩ | ⟨he, r, k, hr, hk, h⟩⟩ := h
  · refine ⟨_, _, rfl, hb, fun w2 e2 w3 h2 => ?_, .inl ⟨he, rfl⟩⟩
    rcases h2 with ⟨-, ⟨-, rfl⟩ | ⟨he', -⟩⟩
    · rfl
    · exact absurd he' he
  · have key : ∀ {er : Int}, (∀ r' k', IsReg ⟨wd.toNat, os⟩ r' → IsMany ⟨wd.toNat, os⟩ r' k' → (askE i j k' ≠ 0 → er = 2) ∧ (askE i j k' = 0 → OutW ⟨wd.toNat, os⟩ r' i.toNat j.toNat → er = 0) ∧ (askE i j k' = 0 → ¬ OutW ⟨wd.toNat, os⟩ r' i.toNat j.toNat → er = 7)) → ∀ w2 e2 w3, ROuAns wd os i j w2 e2 w3 → e2 = .returned (.int .i64 er) := fun {er} hk2 w2 e2 w3 h2 => by
      rcases h2 with ⟨-, ⟨he', -⟩ | ⟨-, r', k', hr', hk', ⟨ha, rfl⟩ | ⟨ha, ho, rfl⟩ | ⟨ha, ho, rfl⟩⟩⟩
      · exact absurd he he'
      · rw [(hk2 r' k' hr' hk').1 ha]
      · rw [(hk2 r' k' hr' hk').2.1 ha ho]
      · rw [(hk2 r' k' hr' hk').2.2 ha ho]
    rcases h with ⟨ha, rfl⟩ | ⟨ha, ho, rfl⟩ | ⟨ha, v, L, hL, hl, rfl, hrow⟩
    · refine ⟨_, _, rfl, hb, key fun r' k' hr' hk' => ?_, .inl ⟨ha, rfl⟩⟩
      obtain ⟨-, rfl⟩ := reg_same hr hr' hk hk'
      exact ⟨fun _ => (askE_is i j k).resolve_left ha, fun h => absurd h ha, fun h => absurd h ha⟩
    · refine ⟨_, _, rfl, hb, key fun r' k' hr' hk' => ?_, .inl ⟨by decide, rfl⟩⟩
      obtain ⟨hrr, rfl⟩ := reg_same hr hr' hk hk'
      exact ⟨fun h => absurd ha h, fun _ h => absurd (h.congr fun p hp => (hrr p hp).symm) ho, fun _ _ => rfl⟩
    · refine ⟨_, _, rfl, hb, key fun r' k' hr' hk' => ?_, .inr ⟨rfl, L, hl, hrow, fun w2 e2 w3 h2 => hL.ans he hr hk ha h2⟩⟩
      obtain ⟨hrr, rfl⟩ := reg_same hr hr' hk hk'
      exact ⟨fun h => absurd ha h, fun _ _ => rfl, fun _ h => absurd (hL.out.congr hrr) h⟩
end Go.Proofs.Ytkjcnkkmhkcddaa
