/-
  Parts of the proof, in the order in which they build: RpD.
-/
import Derived.Test.YtobmhamdkngehaaA21
import Derived.Test.YtobmhamdkngehaaC1
set_option linter.unusedVariables false
set_option linter.unusedSimpArgs false
namespace Go.Proofs.Ytobmhamdkngehaa
open Go.RowKit Go.Shelf
open Lim

theorem lex_first : ∀ (L M : List Nat) (k : Nat), L.length = M.length → (∀ j, j < k → L.getD j 0 = M.getD j 0) → k < L.length → L.getD k 0 ≠ M.getD k 0 → (lexLe L M ↔ L.getD k 0 < M.getD k 0)
  | [], _, _, _, _, h, _ => by simp at h
  | a :: L, [], _, h, _, _, _ => by simp at h
  | a :: L, b :: M, 0, _, _, _, hne => by
    show (a < b ∨ (a = b ∧ lexLe L M)) ↔ a < b
    have : a ≠ b := hne
    constructor
    · rintro (h | ⟨h, -⟩)
      · exact h
      · exact absurd h this
    · exact .inl
  | a :: L, b :: M, k + 1, hl, hp, hk, hne => by
    have h0 : a = b := hp 0 (by omega)
    have ih := lex_first L M k (by simpa using hl) (fun j hj => hp (j + 1) (by omega)) (by simpa using hk) hne
    show (a < b ∨ (a = b ∧ lexLe L M)) ↔ L.getD k 0 < M.getD k 0
    rw [← ih]
    constructor
    · rintro (h | ⟨-, h⟩)
      · omega
      · exact h
    · exact fun h => .inr ⟨h0, h⟩
theorem lists_eq {L M : List Nat} (h : L.length = M.length) (hp : ∀ j, j < L.length → L.getD j 0 = M.getD j 0) : L = M := by
  refine List.ext_getElem h fun j h1 h2 => ?_
  have := hp j h1
  rw [List.getD_eq_getElem?_getD, List.getD_eq_getElem?_getD, List.getElem?_eq_getElem h1, List.getElem?_eq_getElem h2] at this
  exact this
theorem nats_at {L : List Nat} {k : Nat} (hk : k < L.length) : (ints (L.map Int.ofNat))[k]? = some (.int .i64 (L.getD k 0 : Nat)) := by
  unfold ints
  rw [List.map_map, List.getElem?_map, List.getD_eq_getElem?_getD, List.getElem?_eq_getElem hk]
  rfl
theorem nats_ne {L : List Nat} (h : L ≠ []) : ints (L.map Int.ofNat) ≠ [] := by
  unfold ints
  intro e
  exact h (by simpa using e)
set_option maxRecDepth 20000 in
set_option maxHeartbeats 2000000 in
theorem before_any {B1 B2 : Nat} {v1 v2 : Value} {L M : List Nat} {w : World} (hn : L.length ≤ 1000) (hm : M.length ≤ 1000) (hB : B1 ≤ w.heap.size ∧ B2 ≤ w.heap.size) (h1 : RS B1 w v1 L.length (ints (L.map Int.ofNat))) (h2 : RS B2 w v2 M.length (ints (M.map Int.ofNat))) :
    Calls Try.prog 98 #[v1, v2] w fun e w' => ∃ b : Bool, e = .returned (.bool b) ∧ (b = true ↔ better L M ∧ L ≠ M) ∧ Below w.heap.size w w' := by
  obtain ⟨a1, c1, rfl, g1⟩ := h1
  obtain ⟨a2, c2, rfl, g2⟩ := h2
  by_cases hl : L.length = M.length
  · have G1 := Lib.hid g1
    have G2 := Lib.hid g2
    have HB := Lib.hid hB
    have HL := Lib.hid hl
    rw [← hl]
    obtain ⟨n, hnn⟩ : ∃ n, n = L.length := ⟨_, rfl⟩
    rw [← hnn]
    have HN : Hid (n = L.length ∧ n = M.length) := Lib.hid ⟨hnn, hnn.trans hl⟩
    have n64 : n ≤ 1000 := by omega
    have d1 : ((n : Int) != (n : Int)) = false := by simp
    clear g1 g2 hB hl hnn hn hm
    go_enter Try.func98, Try.ntmps98
    go_wp2_with fail
    go_loopw [5] (fun i wr => ∃ k : Nat, k ≤ n ∧ i = .int .i64 k ∧ Hid (Below w.heap.size w wr) ∧ Hid (∀ j, j < k → L.getD j 0 = M.getD j 0)) (fun i _ => n - (intOf i).toNat)
    case atStart => exact ⟨0, Nat.zero_le _, rfl, Lib.hid (Below.refl _ _), Lib.hid (by intro j hj; omega)⟩
    case round =>
      obtain ⟨k, hk, rfl, hbr, hno⟩ := hrel
      by_cases hlt : k < n
      · obtain ⟨b1, o1, rfl, l1, cc1⟩ := G1.out (nats_ne (fun e => by have := HN.out.1; rw [e] at this; simp at this; omega))
        obtain ⟨b2, o2, rfl, l2, cc2⟩ := G2.out (nats_ne (fun e => by have := HN.out.2; rw [e] at this; simp at this; omega))
        obtain ⟨x, hx⟩ : ∃ x, x = L.getD k 0 := ⟨_, rfl⟩
        obtain ⟨y, hy⟩ : ∃ y, y = M.getD k 0 := ⟨_, rfl⟩
        have k1 : wr.cell? ⟨b1, o1 + k, none⟩ = some (.int .i64 (x : Nat)) := by
          rw [hbr.out.cell (p := ⟨b1, o1 + k, none⟩) (Nat.lt_of_lt_of_le l1 HB.out.1), hx]; exact cc1 k _ (nats_at (by have := HN.out.1; omega))
        have k2 : wr.cell? ⟨b2, o2 + k, none⟩ = some (.int .i64 (y : Nat)) := by
          rw [hbr.out.cell (p := ⟨b2, o2 + k, none⟩) (Nat.lt_of_lt_of_le l2 HB.out.2), hy]; exact cc2 k _ (nats_at (by have := HN.out.2; omega))
        have HX := Lib.hid (And.intro hx hy)
        clear hx hy l1 l2 cc1 cc2
        by_cases hxy : x = y
        · have hd : ((x : Int) != (y : Int)) = false := by rw [hxy]; simp
          have HXY := Lib.hid hxy
          clear hxy
          go_wp2_with fail
          go_quiet (fail)
          go_wp2
          go_roundw
          case rel =>
            refine ⟨k + 1, by omega, by go_num, Lib.hid (below_drewN hbr.out _), Lib.hid (fun j hj => ?_)⟩
            by_cases e : j = k
            · rw [e, ← HX.out.1, ← HX.out.2]; exact HXY.out
            · exact hno.out j (by omega)
          case measure => simp [intOf]; omega
        · have hd : ((x : Int) != (y : Int)) = true := by rw [bne_iff_ne]; omega
          have hlex : Hid (lexLe L M ↔ x < y) := Lib.hid (by
            have := lex_first L M k HL.out hno.out (by have := HN.out.1; omega) (by rw [← HX.out.1, ← HX.out.2]; exact hxy)
            rw [← HX.out.1, ← HX.out.2] at this
            exact this)
          have hne : Hid (L ≠ M) := Lib.hid (fun e => hxy (by rw [HX.out.1, HX.out.2, e]))
          clear hxy
          by_cases hlt2 : x < y
          · have hd2 : decide ((x : Int) < (y : Int)) = true := decide_eq_true (by omega)
            have HLT := Lib.hid hlt2
            go_wp2_with fail
            go_quiet (fail)
            go_wp2_with fail
            go_quiet (fail)
            go_wp2
            go_ret
            exact ⟨true, rfl, ⟨fun _ => ⟨.inr ⟨HL.out, hlex.out.2 HLT.out⟩, hne.out⟩, fun _ => rfl⟩, below_drewN (below_drewN hbr.out _) _⟩
          · have hd2 : decide ((x : Int) < (y : Int)) = false := decide_eq_false (by omega)
            have HLT := Lib.hid hlt2
            go_wp2_with fail
            go_quiet (fail)
            go_wp2_with fail
            go_quiet (fail)
            go_wp2
            go_ret
            refine ⟨false, rfl, ⟨fun h => (by cases h), fun h => ?_⟩, below_drewN (below_drewN hbr.out _) _⟩
            rcases h.1 with h1 | ⟨-, h1⟩
            · have := HL.out; omega
            · exact absurd (hlex.out.1 h1) HLT.out
      · have hk2 : k = n := by omega
        have he : Hid (L = M) := Lib.hid (lists_eq HL.out (fun j hj => hno.out j (by have := HN.out.1; omega)))
        go_wp2
        go_ret
        exact ⟨false, rfl, ⟨fun h => (by cases h), fun h => absurd he.out h.2⟩, hbr.out⟩
  · have d1 : ((L.length : Int) != (M.length : Int)) = true := by rw [bne_iff_ne]; omega
    have HL := Lib.hid hl
    clear g1 g2 hB hl
    by_cases hlt : L.length < M.length
    · have hd : decide ((L.length : Int) < (M.length : Int)) = true := decide_eq_true (by omega)
      have HLT := Lib.hid hlt
      go_enter Try.func98, Try.ntmps98
      go_wp2
      go_ret
      exact ⟨true, rfl, ⟨fun _ => ⟨.inl HLT.out, fun e => HL.out (by rw [e])⟩, fun _ => rfl⟩, Below.refl _ _⟩
    · have hd : decide ((L.length : Int) < (M.length : Int)) = false := decide_eq_false (by omega)
      have HLT := Lib.hid hlt
      go_enter Try.func98, Try.ntmps98
      go_wp2
      go_ret
      refine ⟨false, rfl, ⟨fun h => (by cases h), fun h => ?_⟩, Below.refl _ _⟩
      rcases h.1 with h1 | ⟨h1, -⟩
      · exact absurd h1 HLT.out
      · exact absurd h1 HL.out
end Go.Proofs.Ytobmhamdkngehaa
