/-
  Parts of the proof, in the order in which they build: EyA.
-/
import Derived.Test.YtkjcnkkmhkcddaaA44
import Derived.Test.YtkjcnkkmhkcddaaA47
import Derived.Test.YtkjcnkkmhkcddaaA14
set_option linter.unusedVariables false
set_option linter.unusedSimpArgs false
namespace Go.Proofs.Ytkjcnkkmhkcddaa
open Go.RowKit Go.Shelf
open Lim

attribute [local go_sem] Oper.semAt_some

theorem two_cells {W : World} {q : Nat} {a b : Value} {t : TypeId} (h : W.heap[q]? = some (.cells #[a, b] t (0, 0))) : (W.cell? ⟨q, 0, none⟩ = some a ∧ W.cell? ⟨q, 1, none⟩ = some b) ∧ W.frozen? ⟨q, 0, none⟩ = false ∧ W.frozen? ⟨q, 1, none⟩ = false := by
  refine ⟨⟨?_, ?_⟩, ?_, ?_⟩ <;> simp [World.cell?, World.frozen?, h]
theorem heap_set_pair {w : World} {q : Nat} {a b : Value} {t : TypeId} (c d : Value) (h : w.heap[q]? = some (.cells #[a, b] t (0, 0))) : ((w.setCell ⟨q, 0, none⟩ c).setCell ⟨q, 1, none⟩ d).heap[q]? = some (.cells #[c, d] t (0, 0)) := by
  have h1 := heap_setCell_self (o := 0) c h
  have h2 := heap_setCell_self (o := 1) d h1
  simpa using h2
/-- a row stays while a box of another type is written -/
theorem owns_box {W W' : World} {base e q : Nat} {t : TypeId} {v : Value} {n : Nat} {xs cs : List Value} {cur : Array Value} (h : W.ownsRow base e 1 v n xs) (hq : W.heap[q]? = some (.cells cur t (0, 0))) (ht : t ≠ e) (hs : Sep (fun k => k = q) W W') : W'.ownsRow base e 1 v n xs := by
  refine ⟨h.1, ?_⟩
  rcases h.2 with hn | ⟨g, cap, c2, hv, hb, hg, r⟩
  · exact .inl hn
  · exact .inr ⟨g, cap, c2, hv, hb, hs.heap hg (fun e2 => by
      have e2 : g = q := e2
      rw [e2, hq] at hg
      have h3 := Option.some.inj hg
      have h4 := congrArg (fun o => match o with | .cells _ t _ => some t | _ => none) h3
      exact ht (Option.some.inj h4)), r⟩
/-- a box of a map, written or not -/
def BoxP (w0 W : World) (t : TypeId) (s : Bool) (x y : Value) : Prop := ∃ q a b, y = .pointer (some ⟨q, 0, none⟩) ∧ w0.heap.size ≤ q ∧ W.heap[q]? = some (.cells #[a, b] t (0, 0)) ∧ (s = true → x = .agg #[a, b])
def RowP (w0 W : World) (wd : Int) (os : List Int) (x : Value) : Prop := ∃ v, x = .agg #[.int .i64 wd, v] ∧ W.ownsRow w0.heap.size 3 1 v os.length (ints os)
/-- two clones of a map, one of a list, two boxes -/
structure CloP (w0 : World) (wd : Int) (os xs : List Int) (dA dB dC kA kB sA sB : Bool) (xA xB xC yA yB : Value) (W : World) : Prop where
  be : Below w0.heap.size w0 W
  cA : dA = true → RowP w0 W wd os xA
  cB : dB = true → RowP w0 W wd os xB
  cC : dC = true → W.ownsRow w0.heap.size 3 1 xC xs.length (ints xs)
  aA : kA = true → BoxP w0 W 24 sA xA yA
  aB : kB = true → BoxP w0 W 28 sB xB yB
  tA : sA = true → dA = true ∧ kA = true
  tB : sB = true → dB = true ∧ kB = true
theorem BoxP.grow {w0 W W' : World} {t : TypeId} {s : Bool} {x y : Value} (h : BoxP w0 W t s x y) (hb : Below W.heap.size W W') : BoxP w0 W' t s x y := by
  obtain ⟨q, a, b, h1, h2, h3, h4⟩ := h
  exact ⟨q, a, b, h1, h2, (hb.block q (Array.getElem?_eq_some_iff.1 h3).1).trans h3, h4⟩
theorem RowP.grow {w0 W W' : World} {wd : Int} {os : List Int} {x : Value} (h : RowP w0 W wd os x) (hb : Below W.heap.size W W') : RowP w0 W' wd os x := by
  obtain ⟨v, h1, h2⟩ := h
  exact ⟨v, h1, owns_below h2 hb⟩
section
variable {w0 W W' : World} {wd : Int} {os xs : List Int} {dA dB dC kA kB sA sB : Bool} {xA xB xC yA yB : Value}
theorem CloP.grow (H : CloP w0 wd os xs dA dB dC kA kB sA sB xA xB xC yA yB W) (hb : Below W.heap.size W W') : CloP w0 wd os xs dA dB dC kA kB sA sB xA xB xC yA yB W' :=
  ⟨H.be.trans (hb.mono H.be.size), fun h => (H.cA h).grow hb, fun h => (H.cB h).grow hb, fun h => owns_below (H.cC h) hb, fun h => (H.aA h).grow hb, fun h => (H.aB h).grow hb, H.tA, H.tB⟩
theorem CloP.callA (H0 : CloP w0 wd os xs dA dB dC kA kB sA sB xA xB xC yA yB W) (hd : dA = false) (hb : Below W.heap.size W W') {v : Value} (ho : W'.ownsRow W.heap.size 3 1 v os.length (ints os)) : CloP w0 wd os xs true dB dC kA kB sA sB (.agg #[.int .i64 wd, v]) xB xC yA yB W' := by
  have H := H0.grow hb
  have hs : sA = false := by cases h : sA with
    | false => rfl
    | true => have := (H0.tA h).1; rw [hd] at this; cases this
  exact ⟨H.be, fun _ => ⟨v, rfl, owns_mono ho H0.be.size⟩, H.cB, H.cC, fun h => by obtain ⟨q, a, b, h1, h2, h3, -⟩ := H.aA h; exact ⟨q, a, b, h1, h2, h3, fun e => (by rw [hs] at e; cases e)⟩, H.aB, fun e => (by rw [hs] at e; cases e), H.tB⟩
theorem CloP.callB (H0 : CloP w0 wd os xs dA dB dC kA kB sA sB xA xB xC yA yB W) (hd : dB = false) (hb : Below W.heap.size W W') {v : Value} (ho : W'.ownsRow W.heap.size 3 1 v os.length (ints os)) : CloP w0 wd os xs dA true dC kA kB sA sB xA (.agg #[.int .i64 wd, v]) xC yA yB W' := by
  have H := H0.grow hb
  have hs : sB = false := by cases h : sB with
    | false => rfl
    | true => have := (H0.tB h).1; rw [hd] at this; cases this
  exact ⟨H.be, H.cA, fun _ => ⟨v, rfl, owns_mono ho H0.be.size⟩, H.cC, H.aA, fun h => by obtain ⟨q, a, b, h1, h2, h3, -⟩ := H.aB h; exact ⟨q, a, b, h1, h2, h3, fun e => (by rw [hs] at e; cases e)⟩, H.tA, fun e => (by rw [hs] at e; cases e)⟩
theorem CloP.boxA (H0 : CloP w0 wd os xs dA dB dC kA kB sA sB xA xB xC yA yB W) (hd : kA = false) (a b : Value) : CloP w0 wd os xs dA dB dC true kB sA sB xA xB xC (.pointer (some ⟨W.heap.size, 0, none⟩)) yB (W.alloc (.cells #[a, b] 24)) := by
  have H := H0.grow ((Below.refl _ W).alloc (Nat.le_refl _) (.cells #[a, b] 24))
  have hs : sA = false := by cases h : sA with
    | false => rfl
    | true => have := (H0.tA h).2; rw [hd] at this; cases this
  exact ⟨H.be, H.cA, H.cB, H.cC, fun _ => ⟨W.heap.size, a, b, rfl, H0.be.size, heap_alloc_new _ _, fun e => (by rw [hs] at e; cases e)⟩, H.aB, fun e => (by rw [hs] at e; cases e), H.tB⟩
theorem CloP.boxB (H0 : CloP w0 wd os xs dA dB dC kA kB sA sB xA xB xC yA yB W) (hd : kB = false) (a b : Value) : CloP w0 wd os xs dA dB dC kA true sA sB xA xB xC yA (.pointer (some ⟨W.heap.size, 0, none⟩)) (W.alloc (.cells #[a, b] 28)) := by
  have H := H0.grow ((Below.refl _ W).alloc (Nat.le_refl _) (.cells #[a, b] 28))
  have hs : sB = false := by cases h : sB with
    | false => rfl
    | true => have := (H0.tB h).2; rw [hd] at this; cases this
  exact ⟨H.be, H.cA, H.cB, H.cC, H.aA, fun _ => ⟨W.heap.size, a, b, rfl, H0.be.size, heap_alloc_new _ _, fun e => (by rw [hs] at e; cases e)⟩, H.tA, fun e => (by rw [hs] at e; cases e)⟩
theorem box_ne {t t' : TypeId} {q q' : Nat} {c c' : Array Value} (h : W.heap[q]? = some (.cells c t (0, 0))) (h' : W.heap[q']? = some (.cells c' t' (0, 0))) (ht : t ≠ t') : q ≠ q' := fun e => by
  rw [e, h'] at h
  have h3 := Option.some.inj h
  have h4 := congrArg (fun o => match o with | .cells _ t _ => some t | _ => none) h3
  exact ht (Option.some.inj h4).symm
theorem CloP.putA (H : CloP w0 wd os xs dA dB dC kA kB sA sB xA xB xC yA yB W) {q : Nat} {a b c d : Value} (hd : dA = true) (hk : kA = true) (hq : W.heap[q]? = some (.cells #[a, b] 24 (0, 0))) (hge : w0.heap.size ≤ q) : CloP w0 wd os xs dA dB dC kA kB true sB (.agg #[c, d]) xB xC (.pointer (some ⟨q, 0, none⟩)) yB ((W.setCell ⟨q, 0, none⟩ c).setCell ⟨q, 1, none⟩ d) ∨ xA ≠ .agg #[c, d] := by
  by_cases hx : xA = .agg #[c, d]
  · left
    have hs : Sep (fun k => k = q) W ((W.setCell ⟨q, 0, none⟩ c).setCell ⟨q, 1, none⟩ d) := (Sep.set W q 0 c).trans (Sep.set _ q 1 d)
    have hr : ∀ {x}, RowP w0 W wd os x → RowP w0 ((W.setCell ⟨q, 0, none⟩ c).setCell ⟨q, 1, none⟩ d) wd os x := fun ⟨v, h1, h2⟩ => ⟨v, h1, owns_box (cs := []) h2 hq (by decide) hs⟩
    refine ⟨(H.be.setCell (p := ⟨q, 0, none⟩) hge c).setCell (p := ⟨q, 1, none⟩) hge d, fun h => by rw [← hx]; exact hr (H.cA h), fun h => hr (H.cB h), fun h => owns_box (cs := []) (H.cC h) hq (by decide) hs, fun _ => ⟨q, c, d, rfl, hge, heap_set_pair c d hq, fun _ => rfl⟩, fun h => ?_, fun _ => ⟨hd, hk⟩, H.tB⟩
    obtain ⟨q', a', b', h1, h2, h3, h4⟩ := H.aB h
    exact ⟨q', a', b', h1, h2, hs.heap h3 (fun e => box_ne hq h3 (by decide) e.symm), h4⟩
  · exact .inr hx
theorem CloP.putB (H : CloP w0 wd os xs dA dB dC kA kB sA sB xA xB xC yA yB W) {q : Nat} {a b c d : Value} (hd : dB = true) (hk : kB = true) (hq : W.heap[q]? = some (.cells #[a, b] 28 (0, 0))) (hge : w0.heap.size ≤ q) : CloP w0 wd os xs dA dB dC kA kB sA true xA (.agg #[c, d]) xC yA (.pointer (some ⟨q, 0, none⟩)) ((W.setCell ⟨q, 0, none⟩ c).setCell ⟨q, 1, none⟩ d) ∨ xB ≠ .agg #[c, d] := by
  by_cases hx : xB = .agg #[c, d]
  · left
    have hs : Sep (fun k => k = q) W ((W.setCell ⟨q, 0, none⟩ c).setCell ⟨q, 1, none⟩ d) := (Sep.set W q 0 c).trans (Sep.set _ q 1 d)
    have hr : ∀ {x}, RowP w0 W wd os x → RowP w0 ((W.setCell ⟨q, 0, none⟩ c).setCell ⟨q, 1, none⟩ d) wd os x := fun ⟨v, h1, h2⟩ => ⟨v, h1, owns_box (cs := []) h2 hq (by decide) hs⟩
    refine ⟨(H.be.setCell (p := ⟨q, 0, none⟩) hge c).setCell (p := ⟨q, 1, none⟩) hge d, fun h => hr (H.cA h), fun h => by rw [← hx]; exact hr (H.cB h), fun h => owns_box (cs := []) (H.cC h) hq (by decide) hs, fun h => ?_, fun _ => ⟨q, c, d, rfl, hge, heap_set_pair c d hq, fun _ => rfl⟩, H.tA, fun _ => ⟨hd, hk⟩⟩
    obtain ⟨q', a', b', h1, h2, h3, h4⟩ := H.aA h
    exact ⟨q', a', b', h1, h2, hs.heap h3 (fun e => box_ne hq h3 (by decide) e.symm), h4⟩
  · exact .inr hx
end
/-! Answers are the same. -/
theorem Leads.congr {m : Mp} {r r' : Nat → Nat} (e : ∀ p, p < m.n → r p = r' p) {i j : Nat} {L : List Nat} (h : Leads m r i j L) : Leads m r' i j L :=
  ⟨h.lt, fun p hp => by rw [← e p (h.lt p hp)]; exact h.free p hp, h.adj, by
    obtain ⟨b, s, e1, h1⟩ := h.first
    exact ⟨b, s, e1, by rw [← e b (h.lt b (by rw [e1]; simp))]; exact h1⟩, h.last⟩
theorem reg_same {m : Mp} {r r' : Nat → Nat} {k k' : Nat} (hr : IsReg m r) (hr' : IsReg m r') (hk : IsMany m r k) (hk' : IsMany m r' k') : (∀ p, p < m.n → r p = r' p) ∧ k = k' :=
  ⟨hr.unique hr', (hk.congr (hr.unique hr')).unique hk'⟩
theorem LeAns.unique {wd : Int} {os : List Int} {i j : Int} {xs : List Int} {w w' v v' : World} {e e' : Ending} (h : LeAns wd os i j xs w e w') (h' : LeAns wd os i j xs v e' v') : e = e' := by
  rcases h with ⟨-, ⟨he, rfl⟩ | ⟨he, r, k, hr, hk, h⟩⟩
  · rcases h' with ⟨-, ⟨-, rfl⟩ | ⟨he', -⟩⟩
    · rfl
    · exact absurd he' he
  · rcases h' with ⟨-, ⟨he', -⟩ | ⟨-, r', k', hr', hk', h'⟩⟩
    · exact absurd he he'
    · obtain ⟨hrr, rfl⟩ := reg_same hr hr' hk hk'
      rcases h with ⟨ha, rfl⟩ | ⟨ha, hin, rfl⟩ | ⟨ha, hin, z, rfl, hz⟩
      · rcases h' with ⟨-, rfl⟩ | ⟨ha', -⟩ | ⟨ha', -⟩
        · rfl
        · exact absurd ha' ha
        · exact absurd ha' ha
      · rcases h' with ⟨ha', -⟩ | ⟨-, -, rfl⟩ | ⟨-, hin', -⟩
        · exact absurd ha ha'
        · rfl
        · exact absurd hin' hin
      · rcases h' with ⟨ha', -⟩ | ⟨-, hin', -⟩ | ⟨-, -, z', rfl, hz'⟩
        · exact absurd ha ha'
        · exact absurd hin hin'
        · have e : z = z' := by
            rw [Bool.eq_iff_iff, hz, hz']
            exact ⟨fun h => h.congr hrr, fun h => h.congr (fun p hp => (hrr p hp).symm)⟩
          rw [e]
theorem Leads.ans {wd : Int} {os : List Int} {i j : Int} {r : Nat → Nat} {k : Nat} {L : List Nat} {w w' : World} {e : Ending} (he : errE wd os = 0) (hr : IsReg ⟨wd.toNat, os⟩ r) (hk : IsMany ⟨wd.toNat, os⟩ r k) (ha : askE i j k = 0) (hL : Leads ⟨wd.toNat, os⟩ r i.toNat j.toNat L) (h : LeAns wd os i j (L.map Int.ofNat) w e w') : e = .returned (.tuple #[.bool true, .int .i64 0]) := by
  have hb := h.1
  refine h.unique (v := w) (v' := w') ⟨hb, .inr ⟨he, r, k, hr, hk, .inr (.inr ⟨ha, fun x hx => ?_, true, rfl, ?_⟩)⟩⟩
  · obtain ⟨p, hp, rfl⟩ := List.mem_map.1 hx
    have := hL.lt p hp
    exact ⟨Int.natCast_nonneg _, by show (p : Int) < os.length; have h2 : p < os.length := this; omega⟩
  · rw [List.map_map]
    have e : (L.map (Int.toNat ∘ Int.ofNat)) = L := (List.map_congr_left (g := id) (fun x _ => rfl)).trans (List.map_id L)
    rw [e]
    exact ⟨fun _ => hL, fun _ => rfl⟩
theorem OuAns.same {wd : Int} {os : List Int} {i j : Int} {w w' : World} {e : Ending} (h : OuAns wd os i j w e w') : ∃ (v : Value) (er : Int), e = .returned (.tuple #[v, .int .i64 er]) ∧ Below w.heap.size w w' ∧ (∀ w2 e2 w3, ROuAns wd os i j w2 e2 w3 → e2 = .returned (.int .i64 er)) ∧
    ((er ≠ 0 ∧ v = .slice none 0 0) ∨ (er = 0 ∧ ∃ L : List Nat, L.length ≤ 300 ∧ w'.ownsRow w.heap.size 3 1 v L.length (ints (L.map Int.ofNat)) ∧ ∀ w2 e2 w3, LeAns wd os i j (L.map Int.ofNat) w2 e2 w3 → e2 = .returned (.tuple #[.bool true, .int .i64 0]))) := by
  obtain ⟨hb, ⟨he, rfl⟩ | ⟨he, r, k, hr, hk, h⟩⟩ := h
  · refine ⟨_, _, rfl, hb, fun w2 e2 w3 h2 => ?_, .inl ⟨he, rfl⟩⟩
    rcases h2 with ⟨-, ⟨-, rfl⟩ | ⟨he', -⟩⟩
    · rfl
    · exact absurd he' he
  · have key : ∀ {er : Int}, (∀ r' k', IsReg ⟨wd.toNat, os⟩ r' → IsMany ⟨wd.toNat, os⟩ r' k' → (askE i j k' ≠ 0 → er = 2) ∧ (askE i j k' = 0 → OutW ⟨wd.toNat, os⟩ r' i.toNat j.toNat → er = 0) ∧ (askE i j k' = 0 → ¬ OutW ⟨wd.toNat, os⟩ r' i.toNat j.toNat → er = 7)) → ∀ w2 e2 w3, ROuAns wd os i j w2 e2 w3 → e2 = .returned (.int .i64 er) := fun {er} hk2 w2 e2 w3 h2 => by
      rcases h2 with ⟨-, ⟨he', -⟩ | ⟨-, r', k', hr', hk', ⟨ha, rfl⟩ | ⟨ha, ho, rfl⟩ | ⟨ha, ho, rfl⟩⟩⟩
      · exact absurd he he'
      · rw [(hk2 r' k' hr' hk').1 ha]
      · rw [(hk2 r' k' hr' hk').2.1 ha ho]
      · rw [(hk2 r' k' hr' hk').2.2 ha ho]
    rcases h with ⟨ha, rfl⟩ | ⟨ha, ho, rfl⟩ | ⟨ha, v, L, hL, hl, rfl, hrow⟩
    · refine ⟨_, _, rfl, hb, key fun r' k' hr' hk' => ?_, .inl ⟨ha, rfl⟩⟩
      obtain ⟨-, rfl⟩ := reg_same hr hr' hk hk'
      exact ⟨fun _ => (askE_is i j k).resolve_left ha, fun h => absurd h ha, fun h => absurd h ha⟩
    · refine ⟨_, _, rfl, hb, key fun r' k' hr' hk' => ?_, .inl ⟨by decide, rfl⟩⟩
      obtain ⟨hrr, rfl⟩ := reg_same hr hr' hk hk'
      exact ⟨fun h => absurd ha h, fun _ h => absurd (h.congr fun p hp => (hrr p hp).symm) ho, fun _ _ => rfl⟩
    · refine ⟨_, _, rfl, hb, key fun r' k' hr' hk' => ?_, .inr ⟨rfl, L, hl, hrow, fun w2 e2 w3 h2 => hL.ans he hr hk ha h2⟩⟩
      obtain ⟨hrr, rfl⟩ := reg_same hr hr' hk hk'
      exact ⟨fun h => absurd ha h, fun _ _ => rfl, fun _ h => absurd (hL.out.congr hrr) h⟩
end Go.Proofs.Ytkjcnkkmhkcddaa
