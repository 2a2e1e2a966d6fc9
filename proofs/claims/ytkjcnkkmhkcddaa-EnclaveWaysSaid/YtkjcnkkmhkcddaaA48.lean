/-
  Parts of the proof, in the order in which they build: EyA, EyB.
-/
import Derived.Deep.CutRange
import Derived.Test.YtkjcnkkmhkcddaaA44
import Derived.Test.YtkjcnkkmhkcddaaA47
import Derived.Test.YtkjcnkkmhkcddaaA14
set_option linter.unusedVariables false
set_option linter.unusedSimpArgs false
/-
  Maps and a list that are cloned in a drawn order; what the program and the reference answer on ways is the same.
-/
namespace Go.Proofs.Ytkjcnkkmhkcddaa
open Go.RowKit Go.Shelf
open Lim

attribute [local go_sem] Oper.semAt_some

theorem two_cells {W : World} {q : Nat} {a b : Value} {t : TypeId} (h : W.heap[q]? = some (.cells #[a, b] t (0, 0))) : (W.cell? ⟨q, 0, none⟩ = some a ∧ W.cell? ⟨q, 1, none⟩ = some b) ∧ W.frozen? ⟨q, 0, none⟩ = false ∧ W.frozen? ⟨q, 1, none⟩ = false := by
  refine ⟨⟨?_, ?_⟩, ?_, ?_⟩ <;> simp [World.cell?, World.frozen?, h]
theorem heap_set_pair {w : World} {q : Nat} {a b : Value} {t : TypeId} (c d : Value) (h : w.heap[q]? = some (.cells #[a, b] t (0, 0))) : ((w.setCell ⟨q, 0, none⟩ c).setCell ⟨q, 1, none⟩ d).heap[q]? = some (.cells #[c, d] t (0, 0)) := by
  have h1 := heap_setCell_self (o := 0) c h
  have h2 := heap_setCell_self (o := 1) d h1
  simpa using h2
/-- a row stays while a box of another type is written -/
theorem owns_box {W W' : World} {base e q : Nat} {t : TypeId} {v : Value} {n : Nat} {xs cs : List Value} {cur : Array Value} (h : W.ownsRow base e 1 v n xs) (hq : W.heap[q]? = some (.cells cur t (0, 0))) (ht : t ≠ e) (hs : Sep (fun k => k = q) W W') : W'.ownsRow base e 1 v n xs := by
  refine ⟨h.1, ?_⟩
  rcases h.2 with hn | ⟨g, cap, c2, hv, hb, hg, r⟩
  · exact .inl hn
  · exact .inr ⟨g, cap, c2, hv, hb, hs.heap hg (fun e2 => by
      have e2 : g = q := e2
      rw [e2, hq] at hg
      have h3 := Option.some.inj hg
      have h4 := congrArg (fun o => match o with | .cells _ t _ => some t | _ => none) h3
      exact ht (Option.some.inj h4)), r⟩
/-- a box of a map, written or not -/
def BoxP (w0 W : World) (t : TypeId) (s : Bool) (x y : Value) : Prop := ∃ q a b, y = .pointer (some ⟨q, 0, none⟩) ∧ w0.heap.size ≤ q ∧ W.heap[q]? = some (.cells #[a, b] t (0, 0)) ∧ (s = true → x = .agg #[a, b])
def RowP (w0 W : World) (wd : Int) (os : List Int) (x : Value) : Prop := ∃ v, x = .agg #[.int .i64 wd, v] ∧ W.ownsRow w0.heap.size 3 1 v os.length (ints os)
/-- two clones of a map, one of a list, two boxes -/
structure CloP (w0 : World) (wd : Int) (os xs : List Int) (dA dB dC kA kB sA sB : Bool) (xA xB xC yA yB : Value) (W : World) : Prop where
  be : Below w0.heap.size w0 W
  cA : dA = true → RowP w0 W wd os xA
  cB : dB = true → RowP w0 W wd os xB
  cC : dC = true → W.ownsRow w0.heap.size 3 1 xC xs.length (ints xs)
  aA : kA = true → BoxP w0 W 24 sA xA yA
  aB : kB = true → BoxP w0 W 28 sB xB yB
  tA : sA = true → dA = true ∧ kA = true
  tB : sB = true → dB = true ∧ kB = true
theorem BoxP.grow {w0 W W' : World} {t : TypeId} {s : Bool} {x y : Value} (h : BoxP w0 W t s x y) (hb : Below W.heap.size W W') : BoxP w0 W' t s x y := by
  obtain ⟨q, a, b, h1, h2, h3, h4⟩ := h
  exact ⟨q, a, b, h1, h2, (hb.block q (Array.getElem?_eq_some_iff.1 h3).1).trans h3, h4⟩
theorem RowP.grow {w0 W W' : World} {wd : Int} {os : List Int} {x : Value} (h : RowP w0 W wd os x) (hb : Below W.heap.size W W') : RowP w0 W' wd os x := by
  obtain ⟨v, h1, h2⟩ := h
  exact ⟨v, h1, owns_below h2 hb⟩
section
variable {w0 W W' : World} {wd : Int} {os xs : List Int} {dA dB dC kA kB sA sB : Bool} {xA xB xC yA yB : Value}
theorem CloP.grow (H : CloP w0 wd os xs dA dB dC kA kB sA sB xA xB xC yA yB W) (hb : Below W.heap.size W W') : CloP w0 wd os xs dA dB dC kA kB sA sB xA xB xC yA yB W' :=
  ⟨H.be.trans (hb.mono H.be.size), fun h => (H.cA h).grow hb, fun h => (H.cB h).grow hb, fun h => owns_below (H.cC h) hb, fun h => (H.aA h).grow hb, fun h => (H.aB h).grow hb, H.tA, H.tB⟩
theorem CloP.callA (H0 : CloP w0 wd os xs dA dB dC kA kB sA sB xA xB xC yA yB W) (hd : dA = false) (hb : Below W.heap.size W W') {v : Value} (ho : W'.ownsRow W.heap.size 3 1 v os.length (ints os)) : CloP w0 wd os xs true dB dC kA kB sA sB (.agg #[.int .i64 wd, v]) xB xC yA yB W' := by
  have H := H0.grow hb
  have hs : sA = false := by cases h : sA with
    | false => rfl
    | true => have := (H0.tA h).1; rw [hd] at this; cases this
  exact ⟨H.be, fun _ => ⟨v, rfl, owns_mono ho H0.be.size⟩, H.cB, H.cC, fun h => by obtain ⟨q, a, b, h1, h2, h3, -⟩ := H.aA h; exact ⟨q, a, b, h1, h2, h3, fun e => (by rw [hs] at e; cases e)⟩, H.aB, fun e => (by rw [hs] at e; cases e), H.tB⟩
theorem CloP.callB (H0 : CloP w0 wd os xs dA dB dC kA kB sA sB xA xB xC yA yB W) (hd : dB = false) (hb : Below W.heap.size W W') {v : Value} (ho : W'.ownsRow W.heap.size 3 1 v os.length (ints os)) : CloP w0 wd os xs dA true dC kA kB sA sB xA (.agg #[.int .i64 wd, v]) xC yA yB W' := by
  have H := H0.grow hb
  have hs : sB = false := by cases h : sB with
    | false => rfl
    | true => have := (H0.tB h).1; rw [hd] at this; cases this
  exact ⟨H.be, H.cA, fun _ => ⟨v, rfl, owns_mono ho H0.be.size⟩, H.cC, H.aA, fun h => by obtain ⟨q, a, b, h1, h2, h3, -⟩ := H.aB h; exact ⟨q, a, b, h1, h2, h3, fun e => (by rw [hs] at e; cases e)⟩, H.tA, fun e => (by rw [hs] at e; cases e)⟩
theorem CloP.callC (H0 : CloP w0 wd os xs dA dB dC kA kB sA sB xA xB xC yA yB W) (hb : Below W.heap.size W W') {v : Value} (ho : W'.ownsRow W.heap.size 3 1 v xs.length (ints xs)) : CloP w0 wd os xs dA dB true kA kB sA sB xA xB v yA yB W' :=
  have H := H0.grow hb
  ⟨H.be, H.cA, H.cB, fun _ => owns_mono ho H0.be.size, H.aA, H.aB, H.tA, H.tB⟩
theorem CloP.boxA (H0 : CloP w0 wd os xs dA dB dC kA kB sA sB xA xB xC yA yB W) (hd : kA = false) (a b : Value) : CloP w0 wd os xs dA dB dC true kB sA sB xA xB xC (.pointer (some ⟨W.heap.size, 0, none⟩)) yB (W.alloc (.cells #[a, b] 24)) := by
  have H := H0.grow ((Below.refl _ W).alloc (Nat.le_refl _) (.cells #[a, b] 24))
  have hs : sA = false := by cases h : sA with
    | false => rfl
    | true => have := (H0.tA h).2; rw [hd] at this; cases this
  exact ⟨H.be, H.cA, H.cB, H.cC, fun _ => ⟨W.heap.size, a, b, rfl, H0.be.size, heap_alloc_new _ _, fun e => (by rw [hs] at e; cases e)⟩, H.aB, fun e => (by rw [hs] at e; cases e), H.tB⟩
theorem CloP.boxB (H0 : CloP w0 wd os xs dA dB dC kA kB sA sB xA xB xC yA yB W) (hd : kB = false) (a b : Value) : CloP w0 wd os xs dA dB dC kA true sA sB xA xB xC yA (.pointer (some ⟨W.heap.size, 0, none⟩)) (W.alloc (.cells #[a, b] 28)) := by
  have H := H0.grow ((Below.refl _ W).alloc (Nat.le_refl _) (.cells #[a, b] 28))
  have hs : sB = false := by cases h : sB with
    | false => rfl
    | true => have := (H0.tB h).2; rw [hd] at this; cases this
  exact ⟨H.be, H.cA, H.cB, H.cC, H.aA, fun _ => ⟨W.heap.size, a, b, rfl, H0.be.size, heap_alloc_new _ _, fun e => (by rw [hs] at e; cases e)⟩, H.tA, fun e => (by rw [hs] at e; cases e)⟩
theorem box_ne {t t' : TypeId} {q q' : Nat} {c c' : Array Value} (h : W.heap[q]? = some (.cells c t (0, 0))) (h' : W.heap[q']? = some (.cells c' t' (0, 0))) (ht : t ≠ t') : q ≠ q' := fun e => by
  rw [e, h'] at h
  have h3 := Option.some.inj h
  have h4 := congrArg (fun o => match o with | .cells _ t _ => some t | _ => none) h3
  exact ht (Option.some.inj h4).symm
theorem CloP.putA (H : CloP w0 wd os xs dA dB dC kA kB sA sB xA xB xC yA yB W) {q : Nat} {a b c d : Value} (hd : dA = true) (hk : kA = true) (hq : W.heap[q]? = some (.cells #[a, b] 24 (0, 0))) (hge : w0.heap.size ≤ q) : CloP w0 wd os xs dA dB dC kA kB true sB (.agg #[c, d]) xB xC (.pointer (some ⟨q, 0, none⟩)) yB ((W.setCell ⟨q, 0, none⟩ c).setCell ⟨q, 1, none⟩ d) ∨ xA ≠ .agg #[c, d] := by
  by_cases hx : xA = .agg #[c, d]
  · left
    have hs : Sep (fun k => k = q) W ((W.setCell ⟨q, 0, none⟩ c).setCell ⟨q, 1, none⟩ d) := (Sep.set W q 0 c).trans (Sep.set _ q 1 d)
    have hr : ∀ {x}, RowP w0 W wd os x → RowP w0 ((W.setCell ⟨q, 0, none⟩ c).setCell ⟨q, 1, none⟩ d) wd os x := fun ⟨v, h1, h2⟩ => ⟨v, h1, owns_box (cs := []) h2 hq (by decide) hs⟩
    refine ⟨(H.be.setCell (p := ⟨q, 0, none⟩) hge c).setCell (p := ⟨q, 1, none⟩) hge d, fun h => by rw [← hx]; exact hr (H.cA h), fun h => hr (H.cB h), fun h => owns_box (cs := []) (H.cC h) hq (by decide) hs, fun _ => ⟨q, c, d, rfl, hge, heap_set_pair c d hq, fun _ => rfl⟩, fun h => ?_, fun _ => ⟨hd, hk⟩, H.tB⟩
    obtain ⟨q', a', b', h1, h2, h3, h4⟩ := H.aB h
    exact ⟨q', a', b', h1, h2, hs.heap h3 (fun e => box_ne hq h3 (by decide) e.symm), h4⟩
  · exact .inr hx
theorem CloP.putB (H : CloP w0 wd os xs dA dB dC kA kB sA sB xA xB xC yA yB W) {q : Nat} {a b c d : Value} (hd : dB = true) (hk : kB = true) (hq : W.heap[q]? = some (.cells #[a, b] 28 (0, 0))) (hge : w0.heap.size ≤ q) : CloP w0 wd os xs dA dB dC kA kB sA true xA (.agg #[c, d]) xC yA (.pointer (some ⟨q, 0, none⟩)) ((W.setCell ⟨q, 0, none⟩ c).setCell ⟨q, 1, none⟩ d) ∨ xB ≠ .agg #[c, d] := by
  by_cases hx : xB = .agg #[c, d]
  · left
    have hs : Sep (fun k => k = q) W ((W.setCell ⟨q, 0, none⟩ c).setCell ⟨q, 1, none⟩ d) := (Sep.set W q 0 c).trans (Sep.set _ q 1 d)
    have hr : ∀ {x}, RowP w0 W wd os x → RowP w0 ((W.setCell ⟨q, 0, none⟩ c).setCell ⟨q, 1, none⟩ d) wd os x := fun ⟨v, h1, h2⟩ => ⟨v, h1, owns_box (cs := []) h2 hq (by decide) hs⟩
    refine ⟨(H.be.setCell (p := ⟨q, 0, none⟩) hge c).setCell (p := ⟨q, 1, none⟩) hge d, fun h => hr (H.cA h), fun h => by rw [← hx]; exact hr (H.cB h), fun h => owns_box (cs := []) (H.cC h) hq (by decide) hs, fun h => ?_, fun _ => ⟨q, c, d, rfl, hge, heap_set_pair c d hq, fun _ => rfl⟩, H.tA, fun _ => ⟨hd, hk⟩⟩
    obtain ⟨q', a', b', h1, h2, h3, h4⟩ := H.aA h
    exact ⟨q', a', b', h1, h2, hs.heap h3 (fun e => box_ne hq h3 (by decide) e.symm), h4⟩
  · exact .inr hx
end
/-! Answers are the same. -/
theorem Leads.congr {m : Mp} {r r' : Nat → Nat} (e : ∀ p, p < m.n → r p = r' p) {i j : Nat} {L : List Nat} (h : Leads m r i j L) : Leads m r' i j L :=
  ⟨h.lt, fun p hp => by rw [← e p (h.lt p hp)]; exact h.free p hp, h.adj, by
    obtain ⟨b, s, e1, h1⟩ := h.first
    exact ⟨b, s, e1, by rw [← e b (h.lt b (by rw [e1]; simp))]; exact h1⟩, h.last⟩
theorem LeAns.form {wd : Int} {os : List Int} {i j : Int} {xs : List Int} {w w' : World} {e : Ending} (h : LeAns wd os i j xs w e w') : ∃ (z : Bool) (er : Int), e = .returned (.tuple #[.bool z, .int .i64 er]) := by
  obtain ⟨-, ⟨-, rfl⟩ | ⟨-, r, k, -, -, ⟨-, rfl⟩ | ⟨-, -, rfl⟩ | ⟨-, -, z, rfl, -⟩⟩⟩ := h
  · exact ⟨_, _, rfl⟩
  · exact ⟨_, _, rfl⟩
  · exact ⟨_, _, rfl⟩
  · exact ⟨_, _, rfl⟩
theorem reg_same {m : Mp} {r r' : Nat → Nat} {k k' : Nat} (hr : IsReg m r) (hr' : IsReg m r') (hk : IsMany m r k) (hk' : IsMany m r' k') : (∀ p, p < m.n → r p = r' p) ∧ k = k' :=
  ⟨hr.unique hr', (hk.congr (hr.unique hr')).unique hk'⟩
theorem LeAns.unique {wd : Int} {os : List Int} {i j : Int} {xs : List Int} {w w' v v' : World} {e e' : Ending} (h : LeAns wd os i j xs w e w') (h' : LeAns wd os i j xs v e' v') : e = e' := by
  rcases h with ⟨-, ⟨he, rfl⟩ | ⟨he, r, k, hr, hk, h⟩⟩
  · rcases h' with ⟨-, ⟨-, rfl⟩ | ⟨he', -⟩⟩
    · rfl
    · exact absurd he' he
  · rcases h' with ⟨-, ⟨he', -⟩ | ⟨-, r', k', hr', hk', h'⟩⟩
    · exact absurd he he'
    · obtain ⟨hrr, rfl⟩ := reg_same hr hr' hk hk'
      rcases h with ⟨ha, rfl⟩ | ⟨ha, hin, rfl⟩ | ⟨ha, hin, z, rfl, hz⟩
      · rcases h' with ⟨-, rfl⟩ | ⟨ha', -⟩ | ⟨ha', -⟩
        · rfl
        · exact absurd ha' ha
        · exact absurd ha' ha
      · rcases h' with ⟨ha', -⟩ | ⟨-, -, rfl⟩ | ⟨-, hin', -⟩
        · exact absurd ha ha'
        · rfl
        · exact absurd hin' hin
      · rcases h' with ⟨ha', -⟩ | ⟨-, hin', -⟩ | ⟨-, -, z', rfl, hz'⟩
        · exact absurd ha ha'
        · exact absurd hin hin'
        · have e : z = z' := by
            rw [Bool.eq_iff_iff, hz, hz']
            exact ⟨fun h => h.congr hrr, fun h => h.congr (fun p hp => (hrr p hp).symm)⟩
          rw [e]
theorem Leads.ans {wd : Int} {os : List Int} {i j : Int} {r : Nat → Nat} {k : Nat} {L : List Nat} {w w' : World} {e : Ending} (he : errE wd os = 0) (hr : IsReg ⟨wd.toNat, os⟩ r) (hk : IsMany ⟨wd.toNat, os⟩ r k) (ha : askE i j k = 0) (hL : Leads ⟨wd.toNat, os⟩ r i.toNat j.toNat L) (h : LeAns wd os i j (L.map Int.ofNat) w e w') : e = .returned (.tuple #[.bool true, .int .i64 0]) := by
  have hb := h.1
  refine h.unique (v := w) (v' := w') ⟨hb, .inr ⟨he, r, k, hr, hk, .inr (.inr ⟨ha, fun x hx => ?_, true, rfl, ?_⟩)⟩⟩
  · obtain ⟨p, hp, rfl⟩ := List.mem_map.1 hx
    have := hL.lt p hp
    exact ⟨Int.natCast_nonneg _, by show (p : Int) < os.length; have h2 : p < os.length := this; omega⟩
  · rw [List.map_map]
    have e : (L.map (Int.toNat ∘ Int.ofNat)) = L := (List.map_congr_left (g := id) (fun x _ => rfl)).trans (List.map_id L)
    rw [e]
    exact ⟨fun _ => hL, fun _ => rfl⟩
theorem OuAns.same {wd : Int} {os : List Int} {i j : Int} {w w' : World} {e : Ending} (h : OuAns wd os i j w e w') : ∃ (v : Value) (er : Int), e = .returned (.tuple #[v, .int .i64 er]) ∧ Below w.heap.size w w' ∧ (∀ w2 e2 w3, ROuAns wd os i j w2 e2 w3 → e2 = .returned (.int .i64 er)) ∧
    ((er ≠ 0 ∧ v = .slice none 0 0) ∨ (er = 0 ∧ ∃ L : List Nat, L.length ≤ 300 ∧ w'.ownsRow w.heap.size 3 1 v L.length (ints (L.map Int.ofNat)) ∧ ∀ w2 e2 w3, LeAns wd os i j (L.map Int.ofNat) w2 e2 w3 → e2 = .returned (.tuple #[.bool true, .int .i64 0]))) := by
  obtain ⟨hb, ⟨he, rfl⟩ | ⟨he, r, k, hr, hk, h⟩⟩ := h
  · refine ⟨_, _, rfl, hb, fun w2 e2 w3 h2 => ?_, .inl ⟨he, rfl⟩⟩
    rcases h2 with ⟨-, ⟨-, rfl⟩ | ⟨he', -⟩⟩
    · rfl
    · exact absurd he' he
  · have key : ∀ {er : Int}, (∀ r' k', IsReg ⟨wd.toNat, os⟩ r' → IsMany ⟨wd.toNat, os⟩ r' k' → (askE i j k' ≠ 0 → er = 2) ∧ (askE i j k' = 0 → OutW ⟨wd.toNat, os⟩ r' i.toNat j.toNat → er = 0) ∧ (askE i j k' = 0 → ¬ OutW ⟨wd.toNat, os⟩ r' i.toNat j.toNat → er = 7)) → ∀ w2 e2 w3, ROuAns wd os i j w2 e2 w3 → e2 = .returned (.int .i64 er) := fun {er} hk2 w2 e2 w3 h2 => by
      rcases h2 with ⟨-, ⟨he', -⟩ | ⟨-, r', k', hr', hk', ⟨ha, rfl⟩ | ⟨ha, ho, rfl⟩ | ⟨ha, ho, rfl⟩⟩⟩
      · exact absurd he he'
      · rw [(hk2 r' k' hr' hk').1 ha]
      · rw [(hk2 r' k' hr' hk').2.1 ha ho]
      · rw [(hk2 r' k' hr' hk').2.2 ha ho]
    rcases h with ⟨ha, rfl⟩ | ⟨ha, ho, rfl⟩ | ⟨ha, v, L, hL, hl, rfl, hrow⟩
    · refine ⟨_, _, rfl, hb, key fun r' k' hr' hk' => ?_, .inl ⟨ha, rfl⟩⟩
      obtain ⟨-, rfl⟩ := reg_same hr hr' hk hk'
      exact ⟨fun _ => (askE_is i j k).resolve_left ha, fun h => absurd h ha, fun h => absurd h ha⟩
    · refine ⟨_, _, rfl, hb, key fun r' k' hr' hk' => ?_, .inl ⟨by decide, rfl⟩⟩
      obtain ⟨hrr, rfl⟩ := reg_same hr hr' hk hk'
      exact ⟨fun h => absurd ha h, fun _ h => absurd (h.congr fun p hp => (hrr p hp).symm) ho, fun _ _ => rfl⟩
    · refine ⟨_, _, rfl, hb, key fun r' k' hr' hk' => ?_, .inr ⟨rfl, L, hl, hrow, fun w2 e2 w3 h2 => hL.ans he hr hk ha h2⟩⟩
      obtain ⟨hrr, rfl⟩ := reg_same hr hr' hk hk'
      exact ⟨fun h => absurd ha h, fun _ _ => rfl, fun _ h => absurd (hL.out.congr hrr) h⟩
end Go.Proofs.Ytkjcnkkmhkcddaa
/-
  Whether there is a way out, and whether a list is one: the contract of the law EnclaveWays.
-/
namespace Go.Proofs.Ytkjcnkkmhkcddaa
open Go.RowKit Go.Shelf
open Lim

attribute [local go_sem] Oper.semAt_some

set_option maxRecDepth 20000 in
set_option maxHeartbeats 8000000 in
theorem waysl_any {B : Nat} {wd i j : Int} {ov wv : Value} {os xs : List Int} {w : World} (hB : B ≤ w.heap.size) (hv : RS B w ov os.length (ints os)) (hx : RS B w wv xs.length (ints xs)) :
    Calls Try.prog 7 #[.agg #[.int .i64 wd, ov], .int .i64 i, .int .i64 j, wv] w fun e w' => e = .returned (.bool true) ∧ Below w.heap.size w w' := by
  have HV := Lib.hid (And.intro hB (And.intro hv hx))
  obtain ⟨oa, oc, rfl, -⟩ := hv
  obtain ⟨xa, xc, rfl, -⟩ := hx
  have f0 : (w.alloc (.cells #[.int .i64 wd, .slice oa os.length oc] 24)).cell? ⟨w.heap.size, 0, none⟩ = some (.int .i64 wd) := by simp [go_sem]
  have f1 : (w.alloc (.cells #[.int .i64 wd, .slice oa os.length oc] 24)).cell? ⟨w.heap.size, 1, none⟩ = some (.slice oa os.length oc) := by simp [go_sem]
  have HB := Lib.hid ((Below.refl w.heap.size w).alloc (Nat.le_refl _) (.cells #[.int .i64 wd, .slice oa os.length oc] 24))
  clear hB
  obtain ⟨n, hn⟩ : ∃ n, n = os.length := ⟨_, rfl⟩
  obtain ⟨nx, hnx⟩ : ∃ n, n = xs.length := ⟨_, rfl⟩
  have HN := Lib.hid (And.intro hn hnx)
  rw [← hn] at f0 f1 HB ⊢
  rw [← hnx]
  clear hn hnx
  go_enter Try.func7, Try.ntmps7
  go_wp2_with fail
  generalize w.alloc (.cells #[.int .i64 wd, .slice oa n oc] 24) = w1 at HB f0 f1 ⊢
  obtain ⟨q4, hq4⟩ : ∃ q, q = w.heap.size := ⟨_, rfl⟩
  rw [← hq4] at f0 f1 ⊢
  clear hq4
  refine (great_any _).mono ?_
  rintro e w2 ⟨rfl, rfl⟩
  cases hg : greatB n with
  | true =>
    clear hg
    go_wp2_with fail
    refine (awake_any _).mono ?_
    rintro e w3 ⟨rfl, hb⟩
    have HB3 := Lib.hid (HB.out.trans (hb.mono HB.out.size))
    clear hb
    go_wp2
    go_ret
    exact ⟨rfl, HB3.out⟩
  | false =>
  have hn110 : n ≤ 110 := by
    unfold greatB at hg
    simp at hg
    omega
  clear hg
  by_cases h60 : 60 < nx
  · have d1 : decide ((60 : Int) < nx) = true := by simp; omega
    clear h60
    go_wp2_with fail
    refine (awake_any _).mono ?_
    rintro e w3 ⟨rfl, hb⟩
    have HB3 := Lib.hid (HB.out.trans (hb.mono HB.out.size))
    clear hb
    go_wp2
    go_ret
    exact ⟨rfl, HB3.out⟩
  · have d1 : decide ((60 : Int) < nx) = false := by simp; omega
    have HQ4 : Hid (q4 < w2.drew.heap.size) := Lib.hid (World.block_lt_of_cell? _ _ f0)
    have HCA : Hid (∀ W, Below w2.drew.heap.size w2.drew W → Calls Try.prog 13 #[.agg #[.int .i64 wd, .slice oa n oc]] W fun e w' => ∃ v, e = .returned (.agg #[.int .i64 wd, v]) ∧ w'.ownsRow W.heap.size 3 1 v os.length (ints os) ∧ Below W.heap.size W w') := Lib.hid fun W hW => by
      have hw : Below w.heap.size w W := HB.out.drew.trans (hW.mono HB.out.drew.size)
      rw [HN.out.1]; exact lClone_any (by rw [← HN.out.1]; omega) (Nat.le_trans HV.out.1 hw.size) (HV.out.2.1.below (hw.mono HV.out.1))
    have HCB : Hid (∀ W, Below w2.drew.heap.size w2.drew W → Calls Try.prog 14 #[.agg #[.int .i64 wd, .slice oa n oc]] W fun e w' => ∃ v, e = .returned (.agg #[.int .i64 wd, v]) ∧ w'.ownsRow W.heap.size 3 1 v os.length (ints os) ∧ Below W.heap.size W w') := Lib.hid fun W hW => by
      have hw : Below w.heap.size w W := HB.out.drew.trans (hW.mono HB.out.drew.size)
      rw [HN.out.1]; exact lMap_any (by rw [← HN.out.1]; omega) (Nat.le_trans HV.out.1 hw.size) (HV.out.2.1.below (hw.mono HV.out.1))
    have HCC : Hid (∀ W, Below w2.drew.heap.size w2.drew W → Calls Try.prog 36 #[.slice xa nx xc] W fun e w' => ∃ v, e = .returned v ∧ w'.ownsRow W.heap.size 3 1 v xs.length (ints xs) ∧ Below W.heap.size W w') := Lib.hid fun W hW => by
      have hw : Below w.heap.size w W := HB.out.drew.trans (hW.mono HB.out.drew.size)
      rw [HN.out.2]; exact kclone_ints (by rw [← HN.out.2]; omega) (HV.out.2.2.below (hw.mono HV.out.1))
    clear h60
    go_upto_region 3 with (fail)
    have hC : (fun W => W.cell? ⟨q4, 0, none⟩ = some (.int .i64 wd) ∧ W.cell? ⟨q4, 1, none⟩ = some (.slice oa n oc)) w2.drew := ⟨f0, f1⟩
    refine Lim.regC' (fun W => W.cell? ⟨q4, 0, none⟩ = some (.int .i64 wd) ∧ W.cell? ⟨q4, 1, none⟩ = some (.slice oa n oc)) [] #[false, false, false, false, false, false, false, false, false, false, false] (by kernel_rfl) rfl ?_
    refine Lim.stepR 0 (fun _ => trivial) rfl (by kernel_rfl) (fun _ _ _ _ h => h) hC rfl ?_; apply Exists.intro; refine ⟨?_, ?_⟩
    · rintro w ⟨r0, r1⟩; go_simp; try with_reducible rfl
    simp only [Act.put, List.setIfInBounds_toArray, List.set_cons_succ, List.set_cons_zero]
    refine Lim.stepR 2 (fun _ => trivial) rfl (by kernel_rfl) (fun _ _ _ _ h => h) hC rfl ?_; apply Exists.intro; refine ⟨?_, ?_⟩
    · rintro w ⟨r0, r1⟩; go_simp; try with_reducible rfl
    simp only [Act.put, List.setIfInBounds_toArray, List.set_cons_succ, List.set_cons_zero]
    refine Lim.stepR 4 (fun _ => trivial) rfl (by kernel_rfl) (fun _ _ _ _ h => h) hC rfl ?_; apply Exists.intro; refine ⟨?_, ?_⟩
    · rintro w ⟨r0, r1⟩; go_simp; try with_reducible rfl
    simp only [Act.put, List.setIfInBounds_toArray, List.set_cons_succ, List.set_cons_zero]
    clear hC
    refine Lim.parC [1, 3, 5, 6, 7, 8, 9, 10] (fun done a W => ∃ xA xB xC zC yA yB, a = { tmps := #[.agg #[.int .i64 wd, .slice oa n oc], .int .i64 i, .int .i64 j, .slice xa nx xc, .pointer (some ⟨q4, 0, none⟩), undef, undef, undef, .bool false, yA, zC, yB, undef, undef, undef, undef, undef, undef, undef, .pointer (some ⟨q4, 1, none⟩), .slice oa n oc, .bool false, .bool false, .slice xa nx xc, .int .i64 nx, .bool false, .bool false, undef, .agg #[.int .i64 wd, .slice oa n oc], xA, .slice xa nx xc, xC, .agg #[.int .i64 wd, .slice oa n oc], xB, undef, undef, undef, undef, undef, undef, undef, undef, undef, undef, undef, undef, undef, undef, undef, undef, undef, undef, undef, undef, undef, undef, undef, undef, undef, undef, undef, undef, undef, undef, undef, undef, undef, undef, undef, undef, undef, undef, undef, undef, undef, undef, undef, undef, undef, undef, undef, undef, undef, undef, undef, undef, undef, undef, undef, undef, undef, undef, undef, undef, undef, undef, undef, undef, undef, undef, undef, undef, undef, undef, undef, undef, undef, undef], defers := [] } ∧ CloP w2.drew wd os xs (done 1) (done 5) (done 3) (done 6) (done 7) (done 8) (done 10) xA xB xC yA yB W ∧ (fun W => W.cell? ⟨q4, 0, none⟩ = some (.int .i64 wd) ∧ W.cell? ⟨q4, 1, none⟩ = some (.slice oa n oc)) W ∧ (done 9 = true → done 3 = true ∧ zC = xC)) (fun _ => trivial) (by kernel_rfl) rfl rfl ?hC ?step ?fin ⟨_, _, _, _, _, _, rfl, ?st, ⟨f0, f1⟩, fun h => (by cases h)⟩
    case st => exact ⟨(Below.refl _ _), fun h => (by cases h), fun h => (by cases h), fun h => (by cases h), fun h => (by cases h), fun h => (by cases h), fun h => (by cases h), fun h => (by cases h)⟩
    case hC => rintro done a W ⟨_, _, _, _, _, _, -, -, hc, -⟩; exact hc
    case step =>
      intro i o hi ho done a W hd hdep hS K hK
      obtain ⟨xA, xB, xC, zC, yA, yB, rfl, H, hc, e9⟩ := hS
      obtain ⟨hc0, hc1⟩ := hc
      simp only [List.mem_cons, List.not_mem_nil, or_false] at hi
      rcases hi with rfl | rfl | rfl | rfl | rfl | rfl | rfl | rfl
      · cases ho
        clear hdep
        go_simp
        refine ⟨rfl, (callsIn_wide.2 (HCA.out W H.be)).mono ?_⟩
        rintro e W' ⟨v, rfl, ho, hb⟩
        refine hK _ _ ?_
        exact ⟨_, xB, xC, zC, yA, yB, rfl, H.callA hd hb ho, ⟨hb.on hc0, hb.on hc1⟩, e9⟩
      · cases ho
        clear hdep
        have n9 : done 9 = false := by
          cases h : done 9 with
          | false => rfl
          | true => exact absurd (e9 h).1 (by rw [hd]; decide)
        go_simp
        refine ⟨rfl, (callsIn_wide.2 (HCC.out W H.be)).mono ?_⟩
        rintro e W' ⟨v, rfl, ho, hb⟩
        refine hK _ _ ?_
        exact ⟨xA, xB, _, zC, yA, yB, rfl, H.callC hb ho, ⟨hb.on hc0, hb.on hc1⟩, fun h => (by have h : done 9 = true := h; rw [n9] at h; cases h)⟩
      · cases ho
        clear hdep
        go_simp
        refine ⟨rfl, (callsIn_wide.2 (HCB.out W H.be)).mono ?_⟩
        rintro e W' ⟨v, rfl, ho, hb⟩
        refine hK _ _ ?_
        exact ⟨xA, _, xC, zC, yA, yB, rfl, H.callB hd hb ho, ⟨hb.on hc0, hb.on hc1⟩, e9⟩
      · cases ho
        clear hdep
        go_simp
        refine hK _ _ ?_
        have hb : Below W.heap.size W (W.alloc (.cells #[.int .i64 0, .slice none 0 0] 24)) := (Below.refl _ W).alloc (Nat.le_refl _) _
        exact ⟨xA, xB, xC, zC, _, yB, rfl, H.boxA hd _ _, ⟨hb.on hc0, hb.on hc1⟩, e9⟩
      · cases ho
        clear hdep
        go_simp
        refine hK _ _ ?_
        have hb : Below W.heap.size W (W.alloc (.cells #[.int .i64 0, .slice none 0 0] 28)) := (Below.refl _ W).alloc (Nat.le_refl _) _
        exact ⟨xA, xB, xC, zC, yA, _, rfl, H.boxB hd _ _, ⟨hb.on hc0, hb.on hc1⟩, e9⟩
      · cases ho
        have hcl := hdep 1 (by kernel_rfl) (by simp)
        have hl := hdep 6 (by kernel_rfl) (by simp)
        clear hdep
        obtain ⟨v, rfl, ho⟩ := H.cA hcl
        obtain ⟨ga, gc, rfl, -⟩ := RS.of_owns ho
        obtain ⟨qb, b0, b1, rfl, hge, hq, -⟩ := H.aA hl
        obtain ⟨⟨z0, z1⟩, z2, z3⟩ := two_cells hq
        have HPU := Lib.hid ((H.putA (c := .int .i64 wd) (d := .slice ga os.length gc) hcl hl hq hge).resolve_right (fun h => h rfl))
        have HNQ : Hid (q4 ≠ qb) := Lib.hid (by have h1 : q4 < w2.drew.heap.size := HQ4.out; omega)
        have HGE := Lib.hid hge
        clear ho hq hge
        go_simp
        refine hK _ _ ?_
        exact ⟨_, xB, xC, zC, _, yB, rfl, HPU.out, ⟨(setCell_far _ _ HNQ.out.symm).trans ((setCell_far _ _ HNQ.out.symm).trans hc0), (setCell_far _ _ HNQ.out.symm).trans ((setCell_far _ _ HNQ.out.symm).trans hc1)⟩, e9⟩
      · cases ho
        have hcl := hdep 3 (by kernel_rfl) (by simp)
        clear hdep
        go_simp
        refine hK _ _ ?_
        exact ⟨xA, xB, xC, _, yA, yB, rfl, H, ⟨hc0, hc1⟩, fun _ => ⟨hcl, rfl⟩⟩
      · cases ho
        have hcl := hdep 5 (by kernel_rfl) (by simp)
        have hl := hdep 7 (by kernel_rfl) (by simp)
        clear hdep
        obtain ⟨v, rfl, ho⟩ := H.cB hcl
        obtain ⟨ga, gc, rfl, -⟩ := RS.of_owns ho
        obtain ⟨qb, b0, b1, rfl, hge, hq, -⟩ := H.aB hl
        obtain ⟨⟨z0, z1⟩, z2, z3⟩ := two_cells hq
        have HPU := Lib.hid ((H.putB (c := .int .i64 wd) (d := .slice ga os.length gc) hcl hl hq hge).resolve_right (fun h => h rfl))
        have HNQ : Hid (q4 ≠ qb) := Lib.hid (by have h1 : q4 < w2.drew.heap.size := HQ4.out; omega)
        have HGE := Lib.hid hge
        clear ho hq hge
        go_simp
        refine hK _ _ ?_
        exact ⟨xA, _, xC, zC, yA, _, rfl, HPU.out, ⟨(setCell_far _ _ HNQ.out.symm).trans ((setCell_far _ _ HNQ.out.symm).trans hc0), (setCell_far _ _ HNQ.out.symm).trans ((setCell_far _ _ HNQ.out.symm).trans hc1)⟩, e9⟩
    case fin =>
      rintro done a W hall ⟨xA, xB, xC, zC, yA, yB, rfl, H, hc, e9⟩
      have D : ∀ i, i ∈ [1, 3, 5, 6, 7, 8, 9, 10] → done i = true := hall
      obtain ⟨v1, rfl, hv1⟩ := H.cA (hall 1 (by simp))
      obtain ⟨v3, rfl, hv3⟩ := H.cB (hall 5 (by simp))
      obtain ⟨q9, a9, b9, rfl, -, hq9, hs9⟩ := H.aA (hall 6 (by simp))
      obtain ⟨q11, a11, b11, rfl, -, hq11, hs11⟩ := H.aB (hall 7 (by simp))
      have e1 := hs9 (hall 8 (by simp))
      have e2 := hs11 (hall 10 (by simp))
      simp only [Value.agg.injEq, Array.mk.injEq, List.cons.injEq, and_true] at e1 e2
      obtain ⟨rfl, rfl⟩ := e1
      obtain ⟨rfl, rfl⟩ := e2
      obtain ⟨-, rfl⟩ := e9 (hall 9 (by simp))
      have hv2 := H.cC (hall 3 (by simp))
      have hbe := H.be
      obtain ⟨⟨k0, k1⟩, -, -⟩ := two_cells hq9
      obtain ⟨⟨l0, l1⟩, -, -⟩ := two_cells hq11
      obtain ⟨m0, m1⟩ := hc
      clear H hall D hs9 hs11 hq9 hq11 e9
      obtain ⟨g1, c1, rfl, -⟩ := RS.of_owns hv1
      obtain ⟨g3, c3, rfl, -⟩ := RS.of_owns hv3
      obtain ⟨g2, c2, rfl, -⟩ := RS.of_owns hv2
      have HR1 := Lib.hid (RS.of_owns hv1)
      have HR3 := Lib.hid (RS.of_owns hv3)
      have HR2 := Lib.hid (RS.of_owns hv2)
      have HB := Lib.hid (HB.out.drew.trans (hbe.mono HB.out.drew.size))
      have H110 : Hid (os.length ≤ 110 ∧ xs.length ≤ 60) := Lib.hid ⟨by rw [← HN.out.1]; exact hn110, by rw [← HN.out.2]; have := of_decide_eq_false d1; omega⟩
      obtain ⟨rfl, rfl⟩ : n = os.length ∧ nx = xs.length := HN.out
      clear hv1 hv2 hv3 hbe HCA HCB HCC HN d1 hn110
      obtain ⟨w20, rfl⟩ : ∃ x, x = W := ⟨_, rfl⟩
      go_wp2_with fail
      refine (Leads_any i j (B := w20.heap.size) (by have := H110.out; omega) (by have := H110.out; omega) (Nat.le_refl _) HR1.out HR2.out).mono ?_
      rintro e w21 hL
      have hb := hL.1
      obtain ⟨z, er, rfl⟩ := hL.form
      have HL := Lib.hid hL
      clear hL
      have HB := Lib.hid (HB.out.trans (hb.mono HB.out.size))
      have HR1 := Lib.hid (RS.on HR1.out hb)
      have HR3 := Lib.hid (RS.on HR3.out hb)
      have HR2 := Lib.hid (RS.on HR2.out hb)
      replace k0 := hb.on k0
      replace k1 := hb.on k1
      replace l0 := hb.on l0
      replace l1 := hb.on l1
      replace m0 := hb.on m0
      replace m1 := hb.on m1
      clear hb
      go_wp2_with fail
      refine (rLeads_any i j (B := w21.heap.size) (by have := H110.out; omega) (by have := H110.out; omega) (Nat.le_refl _) HR3.out ((HV.out.2.2.below (HB.out.mono HV.out.1)).mono (Nat.le_trans HV.out.1 HB.out.size))).mono ?_
      rintro e w22 hL2
      have hb := hL2.1
      obtain rfl := HL.out.unique hL2
      clear hL2 HL
      have HB := Lib.hid (HB.out.trans (hb.mono HB.out.size))
      have HR1 := Lib.hid (RS.on HR1.out hb)
      have HR3 := Lib.hid (RS.on HR3.out hb)
      have HR2 := Lib.hid (RS.on HR2.out hb)
      replace k0 := hb.on k0
      replace k1 := hb.on k1
      replace l0 := hb.on l0
      replace l1 := hb.on l1
      replace m0 := hb.on m0
      replace m1 := hb.on m1
      clear hb
      go_wp2_with fail
      refine (Out_any i j (B := w22.heap.size) (by have := H110.out; omega) (Nat.le_refl _) HR1.out).mono ?_
      rintro e w23 hO
      obtain ⟨v, er, rfl, hb, hsame, hcase⟩ := hO.same
      have HSM := Lib.hid hsame
      have HCS := Lib.hid hcase
      clear hO hsame hcase
      have HB := Lib.hid (HB.out.trans (hb.mono HB.out.size))
      have HR1 := Lib.hid (RS.on HR1.out hb)
      have HR3 := Lib.hid (RS.on HR3.out hb)
      have HR2 := Lib.hid (RS.on HR2.out hb)
      replace k0 := hb.on k0
      replace k1 := hb.on k1
      replace l0 := hb.on l0
      replace l1 := hb.on l1
      replace m0 := hb.on m0
      replace m1 := hb.on m1
      clear hb
      rcases HCS.out with ⟨h0, rfl⟩ | ⟨rfl, L, hLl, hrow, hLA⟩
      · skip
        clear HCS
        have g1 : (er != 0) = true := by simpa using h0
        have g2 : (er == 0) = false := by simpa using h0
        clear h0
        go_wp2_with fail
        refine (rOut_any i j (B := w23.heap.size) (by have := H110.out; omega) (Nat.le_refl _) HR3.out).mono ?_
        rintro e w24 hO2
        have hb := hO2.1
        obtain rfl := HSM.out _ _ _ hO2
        clear hO2 HSM
        have HB := Lib.hid (HB.out.trans (hb.mono HB.out.size))
        have HR1 := Lib.hid (RS.on HR1.out hb)
        have HR3 := Lib.hid (RS.on HR3.out hb)
        have HR2 := Lib.hid (RS.on HR2.out hb)
        replace k0 := hb.on k0
        replace k1 := hb.on k1
        replace l0 := hb.on l0
        replace l1 := hb.on l1
        replace m0 := hb.on m0
        replace m1 := hb.on m1
        clear hb
        go_wp2_with fail
        refine (same_any (B1 := w24.heap.size) (B2 := B) (os := os) (by have := H110.out; omega) (Nat.le_refl _) (Nat.le_trans HV.out.1 HB.out.size) HR1.out (by have h := HV.out.2.1.below (HB.out.mono HV.out.1); exact h)).mono ?_
        rintro e w25 ⟨rfl, hb⟩
        have HB := Lib.hid (HB.out.trans (hb.mono HB.out.size))
        have HR1 := Lib.hid (RS.on HR1.out hb)
        have HR3 := Lib.hid (RS.on HR3.out hb)
        have HR2 := Lib.hid (RS.on HR2.out hb)
        replace k0 := hb.on k0
        replace k1 := hb.on k1
        replace l0 := hb.on l0
        replace l1 := hb.on l1
        replace m0 := hb.on m0
        replace m1 := hb.on m1
        clear hb
        go_wp2_with fail
        refine (c_eq (l := xs) (n := xs.length) (by have := H110.out; omega) rfl HR2.out (HV.out.2.2.below (HB.out.mono HV.out.1))).mono ?_
        rintro e w26 ⟨rfl, hb⟩
        have HB := Lib.hid (HB.out.trans (hb.mono HB.out.size))
        have HR1 := Lib.hid (RS.on HR1.out hb)
        have HR3 := Lib.hid (RS.on HR3.out hb)
        have HR2 := Lib.hid (RS.on HR2.out hb)
        replace k0 := hb.on k0
        replace k1 := hb.on k1
        replace l0 := hb.on l0
        replace l1 := hb.on l1
        replace m0 := hb.on m0
        replace m1 := hb.on m1
        clear hb
        go_wp2_with fail
        refine (awake_any _).mono ?_
        rintro e w27 ⟨rfl, hb⟩
        have HB := Lib.hid (HB.out.trans (hb.mono HB.out.size))
        have HR1 := Lib.hid (RS.on HR1.out hb)
        have HR3 := Lib.hid (RS.on HR3.out hb)
        have HR2 := Lib.hid (RS.on HR2.out hb)
        replace k0 := hb.on k0
        replace k1 := hb.on k1
        replace l0 := hb.on l0
        replace l1 := hb.on l1
        replace m0 := hb.on m0
        replace m1 := hb.on m1
        clear hb
        go_wp2
        go_ret
        exact ⟨rfl, HB.out⟩
      · skip
        clear HCS
        obtain ⟨lg, lc, rfl, -⟩ := RS.of_owns hrow
        have HRL := Lib.hid (RS.of_owns hrow)
        have HLA := Lib.hid (And.intro hLl hLA)
        clear hrow hLl hLA
        go_wp2_with fail
        refine (rOut_any i j (B := w23.heap.size) (by have := H110.out; omega) (Nat.le_refl _) HR3.out).mono ?_
        rintro e w24 hO2
        have hb := hO2.1
        obtain rfl := HSM.out _ _ _ hO2
        clear hO2 HSM
        have HB := Lib.hid (HB.out.trans (hb.mono HB.out.size))
        have HR1 := Lib.hid (RS.on HR1.out hb)
        have HR3 := Lib.hid (RS.on HR3.out hb)
        have HR2 := Lib.hid (RS.on HR2.out hb)
        have HRL := Lib.hid (RS.on HRL.out hb)
        replace k0 := hb.on k0
        replace k1 := hb.on k1
        replace l0 := hb.on l0
        replace l1 := hb.on l1
        replace m0 := hb.on m0
        replace m1 := hb.on m1
        clear hb
        have HLL : Hid (L.length = (L.map Int.ofNat).length) := Lib.hid (List.length_map _).symm
        go_wp2_with fail
        refine (rLeads_any i j (B := w24.heap.size) (xs := L.map Int.ofNat) (by have := H110.out; omega) (by rw [← HLL.out]; have := HLA.out.1; omega) (Nat.le_refl _) HR3.out (by have h := HRL.out; rw [HLL.out] at h; rw [HLL.out]; exact h)).mono ?_
        rintro e w25 hL3
        have hb := hL3.1
        obtain rfl := HLA.out.2 _ _ _ hL3
        clear hL3
        have HB := Lib.hid (HB.out.trans (hb.mono HB.out.size))
        have HR1 := Lib.hid (RS.on HR1.out hb)
        have HR3 := Lib.hid (RS.on HR3.out hb)
        have HR2 := Lib.hid (RS.on HR2.out hb)
        have HRL := Lib.hid (RS.on HRL.out hb)
        replace k0 := hb.on k0
        replace k1 := hb.on k1
        replace l0 := hb.on l0
        replace l1 := hb.on l1
        replace m0 := hb.on m0
        replace m1 := hb.on m1
        clear hb
        go_wp2_with fail
        refine (same_any (B1 := w25.heap.size) (B2 := B) (os := os) (by have := H110.out; omega) (Nat.le_refl _) (Nat.le_trans HV.out.1 HB.out.size) HR1.out (by have h := HV.out.2.1.below (HB.out.mono HV.out.1); exact h)).mono ?_
        rintro e w26 ⟨rfl, hb⟩
        have HB := Lib.hid (HB.out.trans (hb.mono HB.out.size))
        have HR1 := Lib.hid (RS.on HR1.out hb)
        have HR3 := Lib.hid (RS.on HR3.out hb)
        have HR2 := Lib.hid (RS.on HR2.out hb)
        have HRL := Lib.hid (RS.on HRL.out hb)
        replace k0 := hb.on k0
        replace k1 := hb.on k1
        replace l0 := hb.on l0
        replace l1 := hb.on l1
        replace m0 := hb.on m0
        replace m1 := hb.on m1
        clear hb
        go_wp2_with fail
        refine (c_eq (l := xs) (n := xs.length) (by have := H110.out; omega) rfl HR2.out (HV.out.2.2.below (HB.out.mono HV.out.1))).mono ?_
        rintro e w27 ⟨rfl, hb⟩
        have HB := Lib.hid (HB.out.trans (hb.mono HB.out.size))
        have HR1 := Lib.hid (RS.on HR1.out hb)
        have HR3 := Lib.hid (RS.on HR3.out hb)
        have HR2 := Lib.hid (RS.on HR2.out hb)
        have HRL := Lib.hid (RS.on HRL.out hb)
        replace k0 := hb.on k0
        replace k1 := hb.on k1
        replace l0 := hb.on l0
        replace l1 := hb.on l1
        replace m0 := hb.on m0
        replace m1 := hb.on m1
        clear hb
        go_wp2_with fail
        refine (awake_any _).mono ?_
        rintro e w28 ⟨rfl, hb⟩
        have HB := Lib.hid (HB.out.trans (hb.mono HB.out.size))
        have HR1 := Lib.hid (RS.on HR1.out hb)
        have HR3 := Lib.hid (RS.on HR3.out hb)
        have HR2 := Lib.hid (RS.on HR2.out hb)
        have HRL := Lib.hid (RS.on HRL.out hb)
        replace k0 := hb.on k0
        replace k1 := hb.on k1
        replace l0 := hb.on l0
        replace l1 := hb.on l1
        replace m0 := hb.on m0
        replace m1 := hb.on m1
        clear hb
        go_wp2
        go_ret
        exact ⟨rfl, HB.out⟩
end Go.Proofs.Ytkjcnkkmhkcddaa
