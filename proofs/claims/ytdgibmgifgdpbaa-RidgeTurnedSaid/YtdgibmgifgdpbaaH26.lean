/-
  Parts of the proof, in the order in which they build: TurnP.
-/
import Derived.Test.YtdgibmgifgdpbaaH24
import Derived.Test.YtdgibmgifgdpbaaH13
import Derived.Test.YtdgibmgifgdpbaaH14
set_option linter.unusedVariables false
set_option linter.unusedSimpArgs false
namespace Go.Proofs.Ytdgibmgifgdpbaa
open Lim

theorem set_at (l : List Int) {j n : Nat} (hl : l.length = n) (hj : j < n) (v : Int) : (l.set j v).getD j 0 = v := by rw [getD_set, if_pos ⟨rfl, by omega⟩]
theorem set_off (l : List Int) {i j : Nat} (h : i ≠ j) (v : Int) : (l.set i v).getD j 0 = l.getD j 0 := by rw [getD_set, if_neg (fun e => h e.1)]
theorem spset_at (l : List (Int × Int)) {j n : Nat} (hl : l.length = n) (hj : j < n) (v : Int × Int) : (l.set j v).getD j (0, 0) = v := by rw [spget, if_pos ⟨rfl, by omega⟩]
theorem spset_off (l : List (Int × Int)) {i j : Nat} (h : i ≠ j) (v : Int × Int) : (l.set i v).getD j (0, 0) = l.getD j (0, 0) := by rw [spget, if_neg (fun e => h e.1)]
structure TuP (m rows n : Nat) (hs : List (Int × Int)) (ss : List Int) (k : Nat) (O Ts Bs P M : List Int) (Th Bh : List (Int × Int)) : Prop where
  lo : O.length = n
  lt : Ts.length = n
  lb : Bs.length = n
  lp : P.length = n
  lm : M.length = n
  lth : Th.length = n
  lbh : Bh.length = n
  o : ∀ c, c < k → O.getD c 0 = flip (ss.getD c 0)
  ts : ∀ c, c < k → Ts.getD (place m rows c) 0 = ss.getD c 0
  bs : ∀ c, c < k → Bs.getD (mirror m c) 0 = ss.getD c 0
  th : ∀ c, c < k → Th.getD (place m rows c) (0, 0) = hs.getD c (0, 0)
  bh : ∀ c, c < k → Bh.getD (mirror m c) (0, 0) = hs.getD c (0, 0)
  p : ∀ c, c < k → P.getD c 0 = (place m rows c : Nat)
  m : ∀ c, c < k → M.getD c 0 = (mirror m c : Nat)
theorem place_ne {m rows a b : Nat} (hm : 0 < m) (ha : a < m * rows) (hb : b < m * rows) (h : a ≠ b) : place m rows a ≠ place m rows b := fun e => h (by rw [← place_back hm ha, ← place_back hm hb, e])
theorem mirror_ne {m rows a b : Nat} (hm : 0 < m) (ha : a < m * rows) (hb : b < m * rows) (h : a ≠ b) : mirror m a ≠ mirror m b := fun e => h (by rw [← mirror_back hm ha, ← mirror_back hm hb, e])
theorem TuP.put {m rows n : Nat} {hs : List (Int × Int)} {ss : List Int} {k : Nat} {O Ts Bs P M : List Int} {Th Bh : List (Int × Int)} (h : TuP m rows n hs ss k O Ts Bs P M Th Bh) (hm : 0 < m) (hn : n = m * rows) (hk : k < n) :
    TuP m rows n hs ss (k + 1) (O.set k (flip (ss.getD k 0))) (Ts.set (place m rows k) (ss.getD k 0)) (Bs.set (mirror m k) (ss.getD k 0)) (P.set k (place m rows k : Nat)) (M.set k (mirror m k : Nat)) (Th.set (place m rows k) (hs.getD k (0, 0))) (Bh.set (mirror m k) (hs.getD k (0, 0))) := by
  have hp : place m rows k < n := by rw [hn]; exact (place_at hm (by omega)).2.2
  have hq : mirror m k < n := by rw [hn]; exact (mirror_at hm (by omega)).2.2
  refine ⟨by rw [List.length_set, h.lo], by rw [List.length_set, h.lt], by rw [List.length_set, h.lb], by rw [List.length_set, h.lp], by rw [List.length_set, h.lm], by rw [List.length_set, h.lth], by rw [List.length_set, h.lbh], fun c hc => ?_, fun c hc => ?_, fun c hc => ?_, fun c hc => ?_, fun c hc => ?_, fun c hc => ?_, fun c hc => ?_⟩
  all_goals by_cases e : c = k
  · subst e; exact set_at O h.lo hk _
  · rw [set_off O (fun e' => e e'.symm)]; exact h.o c (by omega)
  · subst e; exact set_at Ts h.lt hp _
  · rw [set_off Ts (place_ne (rows := rows) hm (by omega) (by omega) (fun e' => e e'.symm))]; exact h.ts c (by omega)
  · subst e; exact set_at Bs h.lb hq _
  · rw [set_off Bs (mirror_ne (rows := rows) hm (by omega) (by omega) (fun e' => e e'.symm))]; exact h.bs c (by omega)
  · subst e; exact spset_at Th h.lth hp _
  · rw [spset_off Th (place_ne (rows := rows) hm (by omega) (by omega) (fun e' => e e'.symm))]; exact h.th c (by omega)
  · subst e; exact spset_at Bh h.lbh hq _
  · rw [spset_off Bh (mirror_ne (rows := rows) hm (by omega) (by omega) (fun e' => e e'.symm))]; exact h.bh c (by omega)
  · subst e; exact set_at P h.lp hk _
  · rw [set_off P (fun e' => e e'.symm)]; exact h.p c (by omega)
  · subst e; exact set_at M h.lm hk _
  · rw [set_off M (fun e' => e e'.symm)]; exact h.m c (by omega)
theorem TuP.begin {m rows n : Nat} {hs : List (Int × Int)} {ss : List Int} (h1 : hs.length = n) (h2 : ss.length = n) : TuP m rows n hs ss 0 ss ss ss (List.replicate n 0) (List.replicate n 0) hs hs :=
  ⟨h2, h2, h2, by simp, by simp, h1, h1, fun c h => by omega, fun c h => by omega, fun c h => by omega, fun c h => by omega, fun c h => by omega, fun c h => by omega, fun c h => by omega⟩
theorem flip_is {s : Int} (h : 0 ≤ s ∧ s ≤ 2) : (3 - s).tmod 3 = flip s := by
  have : s = 0 ∨ s = 1 ∨ s = 2 := by omega
  rcases this with rfl | rfl | rfl <;> decide
theorem flip_wrap {s : Int} (h : 0 ≤ s ∧ s ≤ 2) : IntKind.i64.wrap (flip s) = flip s := by
  have : s = 0 ∨ s = 1 ∨ s = 2 := by omega
  rcases this with rfl | rfl | rfl <;> decide
/-- what the walk compares, for a ground that is looked at otherwise: k says how, f where a cell lies -/
structure TuA (m m' : Nat) (hs H : List (Int × Int)) (ss Q : List Int) (f : Nat → Nat) (sw : Bool) : Prop where
  ok : openErr (m' : Int) H Q = 0
  ln : Q.length = ss.length ∧ H.length = ss.length
  lt : ∀ c, c < ss.length → f c < ss.length
  sad : ∀ x y er x' y' er', SadAns (m : Int) hs ss x y er → SadAns (m' : Int) H Q x' y' er' → x' = x ∧ y' = y ∧ er' = er
  sides : ∀ l l', SidesG ⟨m, hs, ss⟩ l → SidesG ⟨m', H, Q⟩ l' → l'.length = l.length ∧ ∀ c, c < ss.length → l'.getD (f c) (false, false, false) = if sw then ((l.getD c (false, false, false)).2.1, (l.getD c (false, false, false)).1, (l.getD c (false, false, false)).2.2) else l.getD c (false, false, false)
  can : ∀ y er L L', CanList m hs ss y er L → CanList m' H Q y er L' → L'.length = L.length ∧ ∀ c, c < ss.length → (f c ∈ L' ↔ c ∈ L)
theorem Iso.tua {m m' : Nat} {hs H : List (Int × Int)} {ss Q : List Int} {f e : Nat → Nat} {u : Int → Int} {sw : Bool} (I : Iso ⟨m, hs, ss⟩ ⟨m', H, Q⟩ f e u) (ho : openErr (m : Int) hs ss = 0) (hm' : 0 < m') (hd : ss.length % m' = 0) (hl : H.length = Q.length)
    (hu : (sw = false ∧ Same u) ∨ (sw = true ∧ Swap u ∧ f = id ∧ e = id)) : TuA m m' hs H ss Q f sw := by
  have hu1 : Same u ∨ Swap u := hu.elim (fun h => .inl h.2) (fun h => .inr h.2.1)
  have hu2 : Same u ∨ (Swap u ∧ f = id ∧ e = id) := hu.elim (fun h => .inl h.2) (fun h => .inr h.2)
  have ho' := I.open hu1 ho hm' hd hl
  have hg := openErr_ok ho
  have hg' := openErr_ok ho'
  have hn : Q.length = ss.length := I.n
  refine ⟨ho', ⟨hn, by omega⟩, I.lt, fun x y er x' y' er' h h' => ?_, fun l l' h h' => ?_, fun y er L L' h h' => ?_⟩
  · rcases h with ⟨h0, -⟩ | ⟨-, a, b, ha, hb, h⟩
    · exact absurd ho h0
    rcases h' with ⟨h0, -⟩ | ⟨-, a', b', ha', hb', h'⟩
    · exact absurd ho' h0
    obtain ⟨s1, s2⟩ := I.sad hg hg' hu2 ha hb
    obtain rfl := ha'.unique s1
    obtain rfl := hb'.unique s2
    rcases h with ⟨e1, rfl, rfl, rfl⟩ | ⟨e1, rfl, rfl, rfl⟩
    · rcases h' with ⟨e2, rfl, rfl, rfl⟩ | ⟨e2, rfl, rfl, rfl⟩
      · exact ⟨rfl, rfl, rfl⟩
      · exact absurd e1 e2
    · rcases h' with ⟨e2, rfl, rfl, rfl⟩ | ⟨e2, rfl, rfl, rfl⟩
      · exact absurd e2 e1
      · exact ⟨rfl, rfl, rfl⟩
  · obtain ⟨h1, h2⟩ := I.sides hg hg' hu1 (SpansOk.of ho) (SpansOk.of ho') h h'
    refine ⟨h1, fun c hc => ?_⟩
    obtain ⟨h3, h4⟩ := h2 c hc
    rcases hu with ⟨rfl, hs⟩ | ⟨rfl, hs, -⟩
    · exact h3 hs
    · exact h4 hs
  · by_cases he : er = 0
    · obtain ⟨a, b, ha, hb, rfl⟩ := h.2 he
      obtain ⟨a', b', ha', hb', rfl⟩ := h'.2 he
      obtain ⟨h1, h2⟩ := I.sads hg hg' hu1 (y := y) ha hb ha' hb'
      exact ⟨h2, h1⟩
    · rw [h.1 he, h'.1 he]
      exact ⟨rfl, fun c hc => ⟨fun h => (by cases h), fun h => (by cases h)⟩⟩
theorem TuP.other {m rows n : Nat} {hs : List (Int × Int)} {ss : List Int} {O Ts Bs P M : List Int} {Th Bh : List (Int × Int)} (h : TuP m rows n hs ss n O Ts Bs P M Th Bh) (ho : openErr (m : Int) hs ss = 0) (hl : ss.length = n) (hm : 0 < m) (hn : n = m * rows) : TuA m m hs hs ss O id true :=
  (iso_flip (seas_of ho) (by rw [h.lo, hl]) (fun c hc => h.o c (by omega))).tua ho hm (by rw [hl, hn]; exact Nat.mul_mod_right m rows) (by have := (openErr_ok ho).hn; have h2 : hs.length = ss.length := this; rw [h2, hl, h.lo]) (.inr ⟨rfl, flip_swap, rfl, rfl⟩)
theorem TuP.tall {m rows n : Nat} {hs : List (Int × Int)} {ss : List Int} {O Ts Bs P M : List Int} {Th Bh : List (Int × Int)} (h : TuP m rows n hs ss n O Ts Bs P M Th Bh) (ho : openErr (m : Int) hs ss = 0) (hl : ss.length = n) (hm : 0 < m) (hr : 0 < rows) (hn : n = m * rows) : TuA m rows hs Th ss Ts (place m rows) false :=
  (iso_tall hm hr (by rw [hl, hn]) (seas_of ho) (by rw [h.lt, hl]) (fun c hc => h.ts c (by omega)) (fun c hc => h.th c (by omega))).tua ho hr (by rw [hl, hn, Nat.mul_comm]; exact Nat.mul_mod_right rows m) (by rw [h.lth, h.lt]) (.inl ⟨rfl, id_same⟩)
theorem TuP.back {m rows n : Nat} {hs : List (Int × Int)} {ss : List Int} {O Ts Bs P M : List Int} {Th Bh : List (Int × Int)} (h : TuP m rows n hs ss n O Ts Bs P M Th Bh) (ho : openErr (m : Int) hs ss = 0) (hl : ss.length = n) (hm : 0 < m) (hn : n = m * rows) : TuA m m hs Bh ss Bs (mirror m) false :=
  (iso_back hm (by rw [hl, hn]) (seas_of ho) (by rw [h.lb, hl]) (fun c hc => h.bs c (by omega)) (fun c hc => h.bh c (by omega))).tua ho hm (by rw [hl, hn]; exact Nat.mul_mod_right m rows) (by rw [h.lbh, h.lb]) (.inl ⟨rfl, id_same⟩)
end Go.Proofs.Ytdgibmgifgdpbaa
