/-
  Parts of the proof, in the order in which they build: NameP, NameM.
-/
import Derived.Test.YtdgibmgifgdpbaaH14
import Derived.Test.YtdgibmgifgdpbaaH12
import Derived.Test.YtdgibmgifgdpbaaH25
set_option linter.unusedVariables false
set_option linter.unusedSimpArgs false
/-
  RidgeNamed: what can be is so for a reason: plain laws.
-/
namespace Go.Proofs.Ytdgibmgifgdpbaa
open Lim

/-- a way from cell c that meets no cell twice; d is where it ends -/
inductive Trail (g : Gd) : Nat → List Nat → Nat → Prop
  | one {c : Nat} : land g c → Trail g c [c] c
  | cons {c k d : Nat} {L : List Nat} : land g c → nb g c k → Trail g k L d → ¬ c ∈ L → Trail g c (c :: L) d
theorem Trail.land {g : Gd} {c d : Nat} {L : List Nat} (h : Trail g c L d) : ∀ x ∈ L, land g x := by
  induction h with
  | one hl => intro x hx; rcases List.mem_singleton.1 hx with rfl; exact hl
  | cons hl _ _ _ ih => intro x hx; rcases List.mem_cons.1 hx with rfl | hx; exact hl; exact ih x hx
theorem Trail.mem {g : Gd} {c d : Nat} {L : List Nat} (h : Trail g c L d) : c ∈ L := by cases h <;> simp
theorem Trail.last {g : Gd} {c d : Nat} {L : List Nat} (h : Trail g c L d) : d ∈ L := by
  induction h with
  | one _ => simp
  | cons _ _ _ _ ih => exact List.mem_cons_of_mem _ ih
theorem Trail.from {g : Gd} {c d : Nat} {L : List Nat} (h : Trail g c L d) : ∀ {x : Nat}, x ∈ L → ∃ L', Trail g x L' d ∧ ∀ y ∈ L', y ∈ L := by
  induction h with
  | one hl => intro x hx; rcases List.mem_singleton.1 hx with rfl; exact ⟨_, .one hl, fun y h => h⟩
  | cons hl hn ht hc ih =>
    intro x hx
    rcases List.mem_cons.1 hx with rfl | hx
    · exact ⟨_, .cons hl hn ht hc, fun y h => h⟩
    · obtain ⟨L', h1, h2⟩ := ih hx
      exact ⟨L', h1, fun y h => List.mem_cons_of_mem _ (h2 y h)⟩
theorem Trail.of_re {g : Gd} {A S : Nat → Prop} (hA : ∀ c, A c → Go.Proofs.Ytdgibmgifgdpbaa.land g c) {c : Nat} (h : Re g A S c) : ∃ L d, Trail g c L d ∧ (∀ x ∈ L, A x) ∧ S d := by
  induction h with
  | @base c ha hs => exact ⟨[c], c, .one (hA c ha), fun x hx => by rcases List.mem_singleton.1 hx with rfl; exact ha, hs⟩
  | @step c k ha hn _ ih =>
    obtain ⟨L, d, h1, h2, h3⟩ := ih
    by_cases hc : c ∈ L
    · obtain ⟨L', h4, h5⟩ := h1.from hc
      exact ⟨L', d, h4, fun x hx => h2 x (h5 x hx), h3⟩
    · exact ⟨c :: L, d, .cons (hA c ha) hn h1 hc, fun x hx => by rcases List.mem_cons.1 hx with rfl | hx; exact ha; exact h2 x hx, h3⟩
theorem Trail.re {g : Gd} {A S : Nat → Prop} {c d : Nat} {L : List Nat} (h : Trail g c L d) (hA : ∀ x ∈ L, A x) (hS : S d) : Re g A S c := by
  induction h with
  | one hl => exact .base (hA _ (by simp)) hS
  | cons hl hn _ _ ih => exact .step (hA _ (by simp)) hn (ih (fun x hx => hA x (by simp [hx])) hS)
/-- the cells of L as low as they can be, all else as high -/
def onlyLow (g : Gd) (L : List Nat) (c : Nat) : Int := if c ∈ L then lowT g c else highT g c
theorem onlyLow_tr {g : Gd} (hs : SpansOk g) (L : List Nat) : Tr g (onlyLow g L) := fun c hl => by
  have := hs c hl.1
  unfold onlyLow
  split <;> omega
theorem drain_first {p q : Int} (hq : q ≤ 10001) : drainI p q = 1 ↔ p < q := by unfold drainI; split <;> (try split) <;> (try split) <;> omega
theorem drain_second {p q : Int} (hp : p ≤ 10001) : drainI p q = 2 ↔ q < p := by unfold drainI; split <;> (try split) <;> (try split) <;> omega
theorem drain_even {p q : Int} : drainI p q = 3 ↔ p = q ∧ p ≠ 10001 := by unfold drainI; split <;> (try split) <;> (try split) <;> omega
/-- a way along which the one sea is nearer -/
theorem good_low {g : Gd} {t p q : Nat → Int} {s s' : Int} {c : Nat} (hs : SpansOk g) (ht : Tr g t) (hp : IsPass g t s p) (hq : IsPass g t s' q) (hc : land g c) (hlt : p c < q c) :
    ∃ L d, Trail g c L d ∧ ∀ p' q', IsPass g (onlyLow g L) s p' → IsPass g (onlyLow g L) s' q' → p' c < q' c := by
  have h1 := hq.top c hc.1
  obtain ⟨L, d, hL, hA, hS⟩ := Trail.of_re (fun c hc => hc.1) (hp.sound c hc.1 (by omega))
  refine ⟨L, d, hL, fun p' q' hp' hq' => ?_⟩
  have hup : p' c ≤ p c := hp'.least c hc.1 _ (hL.re (fun x hx => ⟨(hA x hx).1, by
    have h2 := (hA x hx).2
    have h3 := (ht x (hA x hx).1).1
    unfold onlyLow
    rw [if_pos hx]; omega⟩) hS)
  rcases Int.lt_or_le (p c) (q' c) with h | h
  · omega
  · exfalso
    have hr := hq'.sound c hc.1 (by omega)
    have : R g t s' (p c) c := R.mono (fun x hl hx => by
      by_cases hm : x ∈ L
      · exact (hA x hm).2
      · have h3 := (ht x hl).2
        unfold onlyLow at hx
        rw [if_neg hm] at hx
        omega) hr
    have := hq.least c hc.1 _ this
    omega
theorem Dr.land {g : Gd} {t : Nat → Int} {c : Nat} {k : Int} (hl : Go.Proofs.Ytdgibmgifgdpbaa.land g c) : Dr g t c k ↔ ∃ p q, IsPass g t 1 p ∧ IsPass g t 2 q ∧ drainI (p c) (q c) = k := by
  unfold Dr drainOf
  simp only [if_pos hl.2]
/-- what can drain First (Second) does so where some way is as low as it can be -/
theorem named_way {g : Gd} (hs : SpansOk g) {t : Nat → Int} {c : Nat} {k : Int} (hk : k = 1 ∨ k = 2) (ht : Tr g t) (hc : land g c) (hd : Dr g t c k) : ∃ L d, Trail g c L d ∧ Dr g (onlyLow g L) c k := by
  obtain ⟨p, q, hp, hq, e⟩ := (Dr.land hc).1 hd
  rcases hk with rfl | rfl
  · obtain ⟨L, d, h1, h2⟩ := good_low hs ht hp hq hc ((drain_first (hq.top c hc.1)).1 e)
    obtain ⟨p', hp'⟩ := (onlyLow_tr hs L).ex hs 1
    obtain ⟨q', hq'⟩ := (onlyLow_tr hs L).ex hs 2
    exact ⟨L, d, h1, (Dr.land hc).2 ⟨p', q', hp', hq', (drain_first (hq'.top c hc.1)).2 (h2 p' q' hp' hq')⟩⟩
  · obtain ⟨L, d, h1, h2⟩ := good_low hs ht hq hp hc ((drain_second (hp.top c hc.1)).1 e)
    obtain ⟨p', hp'⟩ := (onlyLow_tr hs L).ex hs 1
    obtain ⟨q', hq'⟩ := (onlyLow_tr hs L).ex hs 2
    exact ⟨L, d, h1, (Dr.land hc).2 ⟨p', q', hp', hq', (drain_second (hp'.top c hc.1)).2 (h2 q' p' hq' hp')⟩⟩
theorem Dr.fun {g : Gd} {t : Nat → Int} {c : Nat} {k k' : Int} (hl : Go.Proofs.Ytdgibmgifgdpbaa.land g c) (h : Dr g t c k) (h' : Dr g t c k') : k = k' := by
  obtain ⟨p, q, hp, hq, rfl⟩ := (Dr.land hl).1 h
  obtain ⟨p', q', hp', hq', rfl⟩ := (Dr.land hl).1 h'
  rw [hp.unique hp' hl.1, hq.unique hq' hl.1]
/-- a cell's side, by its passes -/
structure NamedC (s : Int) (x : Bool × Bool × Bool) (a b : Int × Int) : Prop where
  sea : s ≠ 0 → x = (s == 1, s == 2, false)
  one : s = 0 → a.1 = -1 ∨ b.1 = -1 → x = (a.1 != -1, b.1 != -1, false)
  two : s = 0 → a.1 ≠ -1 → b.1 ≠ -1 → (x = (true, false, false) ↔ a.2 < b.1) ∧ (x = (false, true, false) ↔ b.2 < a.1) ∧ (x.2.2 = true ↔ a.1 ≤ b.2 ∧ b.1 ≤ a.2)
theorem named_cell {m : Nat} {hs : List (Int × Int)} {ss : List Int} {sl : List (Bool × Bool × Bool)} {e1 e2 : Int} {la lb : List (Int × Int)} (ho : openErr (m : Int) hs ss = 0) (h : SidesG ⟨m, hs, ss⟩ sl) (ha : PassAns (m : Int) hs ss 1 e1 la) (hb : PassAns (m : Int) hs ss 2 e2 lb) :
    e1 = 0 ∧ e2 = 0 ∧ la.length = ss.length ∧ lb.length = ss.length ∧ ∀ c, c < ss.length → NamedC (ss.getD c 0) (sl.getD c (false, false, false)) (la.getD c (0, 0)) (lb.getD c (0, 0)) := by
  have hg : Gd.Ok ⟨m, hs, ss⟩ := openErr_ok ho
  have hn : hs.length = ss.length := hg.hn
  have hso := SpansOk.of ho
  have hss := seas_of ho
  obtain ⟨z1, p, P, hp, hP, rfl⟩ := pass_ans ho (.inl rfl) ha
  obtain ⟨z2, q, Q, hq, hQ, rfl⟩ := pass_ans ho (.inr rfl) hb
  obtain ⟨hl, hsay⟩ := sides_say hg hso hss h
  refine ⟨z1, z2, by simp [hn], by simp [hn], fun c hc => ?_⟩
  rw [pspan_at p P (by omega), pspan_at q Q (by omega)]
  obtain ⟨s1, s2, s3⟩ := hsay c hc
  generalize sl.getD c (false, false, false) = x at s1 s2 s3 ⊢
  obtain ⟨x1, x2, x3⟩ := x
  dsimp only at s1 s2 s3
  by_cases hz : ss.getD c 0 = 0
  · have hland : land ⟨m, hs, ss⟩ c := ⟨hc, hz⟩
    have hbl : ∀ c, land ⟨m, hs, ss⟩ c → lowT ⟨m, hs, ss⟩ c ≤ 10000 := fun c hl => by have := hso c hl.1; omega
    have hbh : ∀ c, land ⟨m, hs, ss⟩ c → highT ⟨m, hs, ss⟩ c ≤ 10000 := fun c hl => by have := hso c hl.1; omega
    have lh : ∀ x, land ⟨m, hs, ss⟩ x → lowT ⟨m, hs, ss⟩ x ≤ highT ⟨m, hs, ss⟩ x := fun x hx => (hso x hx.1).2.1
    have p0 : 0 ≤ p c := hp.low (by omega) (fun c hl => (hso c hl.1).1) hc
    have q0 : 0 ≤ q c := hq.low (by omega) (fun c hl => (hso c hl.1).1) hc
    have pP := hp.mono hP lh hc
    have qQ := hq.mono hQ lh hc
    have pt := hp.top c hc
    have qt := hq.top c hc
    have Pt := hP.top c hc
    have Qt := hQ.top c hc
    have nP : p c = 10001 → P c = 10001 := fun e => by omega
    have nQ : q c = 10001 → Q c = 10001 := fun e => by omega
    -- what holds in each truth
    have all : ∀ t k, Tr ⟨m, hs, ss⟩ t → Dr ⟨m, hs, ss⟩ t c k → ∃ u v : Int, p c ≤ u ∧ u ≤ P c ∧ q c ≤ v ∧ v ≤ Q c ∧ u ≤ 10001 ∧ v ≤ 10001 ∧ drainI u v = k ∧ (u = 10001 → p c = 10001) ∧ (v = 10001 → q c = 10001) := by
      intro t k ht hd
      obtain ⟨u, v, hu, hv, e⟩ := (Dr.land hland).1 hd
      have hbt : ∀ c, land ⟨m, hs, ss⟩ c → t c ≤ 10000 := fun c hl => by have := ht c hl; have := hso c hl.1; omega
      exact ⟨u c, v c, hp.mono hu (fun x hx => (ht x hx).1) hc, hu.mono hP (fun x hx => (ht x hx).2) hc, hq.mono hv (fun x hx => (ht x hx).1) hc, hv.mono hQ (fun x hx => (ht x hx).2) hc, hu.top c hc, hv.top c hc, e, hp.never hu hbt hc, hq.never hv hbt hc⟩
    have low : Dr ⟨m, hs, ss⟩ (lowT ⟨m, hs, ss⟩) c (drainI (p c) (q c)) := (Dr.land hland).2 ⟨p, q, hp, hq, rfl⟩
    have trl := hso.tr
    have f1 : x1 = true ↔ ∃ t, Tr ⟨m, hs, ss⟩ t ∧ Dr ⟨m, hs, ss⟩ t c 1 := s1
    have ev := even_iff hso hp hP hq hQ hland
    have f3 : x3 = true ↔ p c ≠ 10001 ∧ q c ≠ 10001 ∧ p c ≤ Q c ∧ q c ≤ P c := by
      rw [s3]
      constructor
      · rintro ⟨t, ht, hd⟩
        obtain ⟨u, v, h1, h2, h3, h4, h5, h6, e, h7, h8⟩ := all t 3 ht hd
        have := drain_even.1 e
        refine ⟨by omega, by omega, by omega, by omega⟩
      · rintro ⟨h1, h2, h3, h4⟩
        have := ev.1 (by simp [h1, h2, h3, h4])
        obtain ⟨t, u, v, ht, hu, hv, e, h5⟩ := this
        exact ⟨t, ht, (Dr.land hland).2 ⟨u, v, hu, hv, drain_even.2 ⟨e, h5⟩⟩⟩
    have g1 : p c < q c → x1 = true := fun h => s1.2 ⟨_, trl, (drain_first qt).2 h ▸ low⟩
    have g2 : q c < p c → x2 = true := fun h => s2.2 ⟨_, trl, (drain_second pt).2 h ▸ low⟩
    have k1 : x1 = true → p c < Q c ∧ p c ≠ 10001 := fun h => by
      obtain ⟨t, ht, hd⟩ := s1.1 h
      obtain ⟨u, v, h1, h2, h3, h4, h5, h6, e, h7, h8⟩ := all t 1 ht hd
      have := (drain_first h6).1 e
      exact ⟨by omega, by omega⟩
    have k2 : x2 = true → q c < P c ∧ q c ≠ 10001 := fun h => by
      obtain ⟨t, ht, hd⟩ := s2.1 h
      obtain ⟨u, v, h1, h2, h3, h4, h5, h6, e, h7, h8⟩ := all t 2 ht hd
      have := (drain_second h5).1 e
      exact ⟨by omega, by omega⟩
    have sp : ∀ a b : Nat → Int, 0 ≤ a c → (pspan a b c).1 = if a c = 10001 ∧ b c = 10001 then -1 else a c := fun a b _ => by unfold pspan; split <;> rfl
    have sp2 : ∀ a b : Nat → Int, (pspan a b c).2 = if a c = 10001 ∧ b c = 10001 then -1 else b c := fun a b => by unfold pspan; split <;> rfl
    have a1 := sp p P p0
    have a2 := sp2 p P
    have b1 := sp q Q q0
    have b2 := sp2 q Q
    have np : p c ≠ 10001 → (pspan p P c).1 = p c ∧ (pspan p P c).2 = P c := fun h => by rw [a1, a2, if_neg (fun e => h e.1), if_neg (fun e => h e.1)]; exact ⟨rfl, rfl⟩
    have nq : q c ≠ 10001 → (pspan q Q c).1 = q c ∧ (pspan q Q c).2 = Q c := fun h => by rw [b1, b2, if_neg (fun e => h e.1), if_neg (fun e => h e.1)]; exact ⟨rfl, rfl⟩
    have yp : p c = 10001 → (pspan p P c).1 = -1 := fun h => by rw [a1, if_pos ⟨h, nP h⟩]
    have yq : q c = 10001 → (pspan q Q c).1 = -1 := fun h => by rw [b1, if_pos ⟨h, nQ h⟩]
    have B : ∀ b : Bool, (b = true ↔ False) → b = false := fun b h => by cases b; rfl; exact absurd rfl (fun e => h.1 e)
    refine ⟨fun h => absurd hz h, fun _ h => ?_, fun _ h1 h2 => ?_⟩
    · by_cases hp1 : p c = 10001
      · have e1 : x1 = false := B _ ⟨fun h => (k1 h).2 hp1, fun h => h.elim⟩
        have e3 : x3 = false := B _ ⟨fun h => (f3.1 h).1 hp1, fun h => h.elim⟩
        rw [yp hp1, e1, e3]
        by_cases hq1 : q c = 10001
        · have e2 : x2 = false := B _ ⟨fun h => (k2 h).2 hq1, fun h => h.elim⟩
          rw [yq hq1, e2]; rfl
        · rw [(nq hq1).1, g2 (by omega)]
          have : (q c != -1) = true := by rw [bne_iff_ne]; omega
          rw [this]; rfl
      · have hq1 : q c = 10001 := by
          rcases h with h | h
          · rw [(np hp1).1] at h; omega
          · by_cases hq1 : q c = 10001
            · exact hq1
            · rw [(nq hq1).1] at h; omega
        have e2 : x2 = false := B _ ⟨fun h => (k2 h).2 hq1, fun h => h.elim⟩
        have e3 : x3 = false := B _ ⟨fun h => (f3.1 h).2.1 hq1, fun h => h.elim⟩
        rw [yq hq1, e2, e3, (np hp1).1, g1 (by omega)]
        have : (p c != -1) = true := by rw [bne_iff_ne]; omega
        rw [this]; rfl
    · have hp1 : p c ≠ 10001 := fun e => h1 (yp e)
      have hq1 : q c ≠ 10001 := fun e => h2 (yq e)
      rw [(np hp1).1, (np hp1).2, (nq hq1).1, (nq hq1).2]
      have e3 : x3 = true ↔ p c ≤ Q c ∧ q c ≤ P c := ⟨fun h => (f3.1 h).2.2, fun h => f3.2 ⟨hp1, hq1, h⟩⟩
      refine ⟨⟨fun h => ?_, fun h => ?_⟩, ⟨fun h => ?_, fun h => ?_⟩, e3⟩
      · simp only [Prod.mk.injEq] at h
        obtain ⟨-, h5, h6⟩ := h
        rcases Int.lt_or_le (P c) (q c) with h7 | h7
        · exact h7
        · exfalso
          by_cases h8 : p c ≤ Q c
          · rw [e3.2 ⟨h8, h7⟩] at h6; cases h6
          · rw [g2 (by omega)] at h5; cases h5
      · have x1t := g1 (by omega)
        have x2f : x2 = false := B _ ⟨fun hh => by have := (k2 hh).1; omega, fun h => h.elim⟩
        have x3f : x3 = false := B _ ⟨fun hh => by have := e3.1 hh; omega, fun h => h.elim⟩
        rw [x1t, x2f, x3f]
      · simp only [Prod.mk.injEq] at h
        obtain ⟨h5, -, h6⟩ := h
        rcases Int.lt_or_le (Q c) (p c) with h7 | h7
        · exact h7
        · exfalso
          by_cases h8 : q c ≤ P c
          · rw [e3.2 ⟨h7, h8⟩] at h6; cases h6
          · rw [g1 (by omega)] at h5; cases h5
      · have x2t := g2 (by omega)
        have x1f : x1 = false := B _ ⟨fun hh => by have := (k1 hh).1; omega, fun h => h.elim⟩
        have x3f : x3 = false := B _ ⟨fun hh => by have := e3.1 hh; omega, fun h => h.elim⟩
        rw [x2t, x1f, x3f]
  · refine ⟨fun _ => ?_, fun h => absurd h hz, fun h => absurd h hz⟩
    have dr : ∀ (k : Int), (∃ t, Tr ⟨m, hs, ss⟩ t ∧ Dr ⟨m, hs, ss⟩ t c k) ↔ ss.getD c 0 = k := fun k => by
      constructor
      · rintro ⟨t, ht, u, v, hu, hv, hk⟩
        unfold drainOf at hk
        rw [if_neg hz] at hk
        exact hk
      · intro hk
        have ht := hso.tr
        exact ⟨_, ht, p, q, hp, hq, by unfold drainOf; rw [if_neg hz]; exact hk⟩
    have h2 := hss c hc
    have b1 : x1 = (ss.getD c 0 == 1) := Bool.eq_iff_iff.2 ((s1.trans (dr 1)).trans beq_iff_eq.symm)
    have b2 : x2 = (ss.getD c 0 == 2) := Bool.eq_iff_iff.2 ((s2.trans (dr 2)).trans beq_iff_eq.symm)
    have b3 : x3 = false := by
      cases hx : x3 with
      | false => rfl
      | true => have h3 : ss.getD c 0 = 3 := (dr 3).1 (s3.1 hx); omega
    rw [b1, b2, b3]
end Go.Proofs.Ytdgibmgifgdpbaa
/-
  RidgeNamed: memory while ways are tried.
-/
set_option linter.unnecessarySimpa false
namespace Go.Proofs.Ytdgibmgifgdpbaa
open Go.RowKit Go.Shelf
open Lim

structure NM (w0 : World) (m n cT b3 b4 b5 b7 pT pM b10 b11 b12 b13 c0 : Nat) (hv sv : Value) (want : Int) (left : Int) (fd : Bool) (M : List Bool) (T : List Int) (W : World) : Prop where
  b : Below w0.heap.size w0 W
  o : w0.heap.size ≤ b3 ∧ b3 < b4 ∧ b4 < b5 ∧ b5 < b7 ∧ b7 < pT ∧ pT < pM ∧ pM < b10 ∧ b10 < b11 ∧ b11 < b12 ∧ b12 < b13 ∧ b13 < W.heap.size
  x3 : W.heap[b3]? = some (.cells #[.int .i64 m, hv, sv] 25 (0, 0))
  x4 : W.heap[b4]? = some (.cells #[.int .i64 c0] 3 (0, 0))
  x5 : W.heap[b5]? = some (.cells #[.int .i64 want] 71 (0, 0))
  x7 : W.heap[b7]? = some (.cells #[.slice (some ⟨pT, 0, none⟩) n cT] 23 (0, 0))
  x10 : W.heap[b10]? = some (.cells #[.slice (some ⟨pM, 0, none⟩) n n] 72 (0, 0))
  x11 : W.heap[b11]? = some (.cells #[.int .i64 left] 3 (0, 0))
  x12 : W.heap[b12]? = some (.cells #[.bool fd] 4 (0, 0))
  x13 : W.heap[b13]? = some (.cells #[.func (.func 77) #[] #[.pointer (some ⟨b11, 0, none⟩), .pointer (some ⟨b12, 0, none⟩), .pointer (some ⟨b3, 0, none⟩), .pointer (some ⟨b10, 0, none⟩), .pointer (some ⟨b7, 0, none⟩), .pointer (some ⟨b4, 0, none⟩), .pointer (some ⟨b5, 0, none⟩), .pointer (some ⟨b13, 0, none⟩)]] 127 (0, 0))
  tr : W.ownsRow w0.heap.size 3 1 (.slice (some ⟨pT, 0, none⟩) n cT) n (ints T)
  mt : W.ownsRow w0.heap.size 4 1 (.slice (some ⟨pM, 0, none⟩) n n) n (M.map Value.bool)
theorem one_box {W : World} {p : Nat} {a : Value} {t : TypeId} (h : W.heap[p]? = some (.cells #[a] t (0, 0))) : W.cell? ⟨p, 0, none⟩ = some a ∧ W.frozen? ⟨p, 0, none⟩ = false := by
  refine ⟨?_, ?_⟩ <;> simp [World.cell?, World.frozen?, h]
theorem NM.grow {w0 : World} {m n cT b3 b4 b5 b7 pT pM b10 b11 b12 b13 c0 : Nat} {hv sv : Value} {want : Int} {left : Int} {fd : Bool} {M : List Bool} {T : List Int} {W W' : World} (H : NM w0 m n cT b3 b4 b5 b7 pT pM b10 b11 b12 b13 c0 hv sv want left fd M T W) (hb : Below W.heap.size W W') : NM w0 m n cT b3 b4 b5 b7 pT pM b10 b11 b12 b13 c0 hv sv want left fd M T W' :=
  ⟨H.b.trans (hb.mono H.b.size), (by have h := H.o; have := hb.size; omega), heap_grow H.x3 hb, heap_grow H.x4 hb, heap_grow H.x5 hb, heap_grow H.x7 hb, heap_grow H.x10 hb, heap_grow H.x11 hb, heap_grow H.x12 hb, heap_grow H.x13 hb, owns_below H.tr hb, owns_below H.mt hb⟩
theorem NM.setL {w0 : World} {m n cT b3 b4 b5 b7 pT pM b10 b11 b12 b13 c0 : Nat} {hv sv : Value} {want : Int} {left : Int} {fd : Bool} {M : List Bool} {T : List Int} {W : World} (H : NM w0 m n cT b3 b4 b5 b7 pT pM b10 b11 b12 b13 c0 hv sv want left fd M T W) (v : Int) : NM w0 m n cT b3 b4 b5 b7 pT pM b10 b11 b12 b13 c0 hv sv want v fd M T (W.setCell ⟨b11, 0, none⟩ (.int .i64 v)) := by
  have o := H.o
  have off : ∀ r, r ≠ b11 → (W.setCell ⟨b11, 0, none⟩ (.int .i64 v)).heap[r]? = W.heap[r]? := fun r hr => by rw [Below.heap_setCell _ _ _ r hr]
  exact ⟨H.b.setCell (p := ⟨b11, 0, none⟩) (by show w0.heap.size ≤ b11; omega) _, (by have h : (W.setCell ⟨b11, 0, none⟩ (.int .i64 v)).heap.size = W.heap.size := (by simp [World.setCell]); omega), (off _ (by omega)).trans H.x3, (off _ (by omega)).trans H.x4, (off _ (by omega)).trans H.x5, (off _ (by omega)).trans H.x7, (off _ (by omega)).trans H.x10, (by rw [heap_setCell_self _ H.x11]; rfl), (off _ (by omega)).trans H.x12, (off _ (by omega)).trans H.x13, ownsRow_setCell_other H.tr (a := ⟨b11, 0, none⟩) (fun e => by have : pT = b11 := (by simpa [Value.ownBlock] using e); omega) _, ownsRow_setCell_other H.mt (a := ⟨b11, 0, none⟩) (fun e => by have : pM = b11 := (by simpa [Value.ownBlock] using e); omega) _⟩
theorem NM.setF {w0 : World} {m n cT b3 b4 b5 b7 pT pM b10 b11 b12 b13 c0 : Nat} {hv sv : Value} {want : Int} {left : Int} {fd : Bool} {M : List Bool} {T : List Int} {W : World} (H : NM w0 m n cT b3 b4 b5 b7 pT pM b10 b11 b12 b13 c0 hv sv want left fd M T W) (v : Bool) : NM w0 m n cT b3 b4 b5 b7 pT pM b10 b11 b12 b13 c0 hv sv want left v M T (W.setCell ⟨b12, 0, none⟩ (.bool v)) := by
  have o := H.o
  have off : ∀ r, r ≠ b12 → (W.setCell ⟨b12, 0, none⟩ (.bool v)).heap[r]? = W.heap[r]? := fun r hr => by rw [Below.heap_setCell _ _ _ r hr]
  exact ⟨H.b.setCell (p := ⟨b12, 0, none⟩) (by show w0.heap.size ≤ b12; omega) _, (by have h : (W.setCell ⟨b12, 0, none⟩ (.bool v)).heap.size = W.heap.size := (by simp [World.setCell]); omega), (off _ (by omega)).trans H.x3, (off _ (by omega)).trans H.x4, (off _ (by omega)).trans H.x5, (off _ (by omega)).trans H.x7, (off _ (by omega)).trans H.x10, (off _ (by omega)).trans H.x11, (by rw [heap_setCell_self _ H.x12]; rfl), (off _ (by omega)).trans H.x13, ownsRow_setCell_other H.tr (a := ⟨b12, 0, none⟩) (fun e => by have : pT = b12 := (by simpa [Value.ownBlock] using e); omega) _, ownsRow_setCell_other H.mt (a := ⟨b12, 0, none⟩) (fun e => by have : pM = b12 := (by simpa [Value.ownBlock] using e); omega) _⟩
theorem NM.putT {w0 : World} {m n cT b3 b4 b5 b7 pT pM b10 b11 b12 b13 c0 : Nat} {hv sv : Value} {want : Int} {left : Int} {fd : Bool} {M : List Bool} {T : List Int} {W : World} (H : NM w0 m n cT b3 b4 b5 b7 pT pM b10 b11 b12 b13 c0 hv sv want left fd M T W) (j : Nat) (v : Int) : NM w0 m n cT b3 b4 b5 b7 pT pM b10 b11 b12 b13 c0 hv sv want left fd M (T.set j v) (W.setCell ⟨pT, j, none⟩ (.int .i64 v)) := by
  have o := H.o
  have off : ∀ r, r ≠ pT → (W.setCell ⟨pT, j, none⟩ (.int .i64 v)).heap[r]? = W.heap[r]? := fun r hr => by rw [Below.heap_setCell _ _ _ r hr]
  exact ⟨H.b.setCell (p := ⟨pT, j, none⟩) (by show w0.heap.size ≤ pT; omega) _, (by have h : (W.setCell ⟨pT, j, none⟩ (.int .i64 v)).heap.size = W.heap.size := (by simp [World.setCell]); omega), (off _ (by omega)).trans H.x3, (off _ (by omega)).trans H.x4, (off _ (by omega)).trans H.x5, (off _ (by omega)).trans H.x7, (off _ (by omega)).trans H.x10, (off _ (by omega)).trans H.x11, (off _ (by omega)).trans H.x12, (off _ (by omega)).trans H.x13, (by have h := (H.tr.stored j (.int .i64 v)).1; rw [show ints (T.set j v) = (ints T).set j (.int .i64 v) from by unfold ints; rw [List.map_set]]; exact h), ownsRow_setCell_other H.mt (a := ⟨pT, j, none⟩) (fun e => by have : pM = pT := (by simpa [Value.ownBlock] using e); omega) _⟩
theorem NM.putM {w0 : World} {m n cT b3 b4 b5 b7 pT pM b10 b11 b12 b13 c0 : Nat} {hv sv : Value} {want : Int} {left : Int} {fd : Bool} {M : List Bool} {T : List Int} {W : World} (H : NM w0 m n cT b3 b4 b5 b7 pT pM b10 b11 b12 b13 c0 hv sv want left fd M T W) (j : Nat) (v : Bool) : NM w0 m n cT b3 b4 b5 b7 pT pM b10 b11 b12 b13 c0 hv sv want left fd (M.set j v) T (W.setCell ⟨pM, j, none⟩ (.bool v)) := by
  have o := H.o
  have off : ∀ r, r ≠ pM → (W.setCell ⟨pM, j, none⟩ (.bool v)).heap[r]? = W.heap[r]? := fun r hr => by rw [Below.heap_setCell _ _ _ r hr]
  exact ⟨H.b.setCell (p := ⟨pM, j, none⟩) (by show w0.heap.size ≤ pM; omega) _, (by have h : (W.setCell ⟨pM, j, none⟩ (.bool v)).heap.size = W.heap.size := (by simp [World.setCell]); omega), (off _ (by omega)).trans H.x3, (off _ (by omega)).trans H.x4, (off _ (by omega)).trans H.x5, (off _ (by omega)).trans H.x7, (off _ (by omega)).trans H.x10, (off _ (by omega)).trans H.x11, (off _ (by omega)).trans H.x12, (off _ (by omega)).trans H.x13, ownsRow_setCell_other H.tr (a := ⟨pM, j, none⟩) (fun e => by have : pT = pM := (by simpa [Value.ownBlock] using e); omega) _, (by have h := (H.mt.stored j (.bool v)).1; rw [show (M.set j v).map Value.bool = (M.map Value.bool).set j (.bool v) from by rw [List.map_set]]; exact h)⟩
/-- which cells are met, and the truth that is tried -/
structure NSp (g : Gd) (P : List Nat) (M : List Bool) (T : List Int) : Prop where
  lm : M.length = g.n
  lt : T.length = g.n
  m : ∀ x, x < g.n → M.getD x false = decide (x ∈ P)
  t : ∀ x, x < g.n → T.getD x 0 = onlyLow g P x
theorem getD_setB (l : List Bool) (i j : Nat) (v : Bool) : (l.set i v).getD j false = if i = j ∧ i < l.length then v else l.getD j false := by
  simp only [List.getD_eq_getElem?_getD, List.getElem?_set]
  by_cases h : i = j
  · subst h
    by_cases h2 : i < l.length
    · simp [h2]
    · simp [h2]
  · simp [h]
theorem NSp.push {g : Gd} {P : List Nat} {M : List Bool} {T : List Int} (h : NSp g P M T) {x : Nat} (hx : x < g.n) : NSp g (x :: P) (M.set x true) (T.set x (lowT g x)) := by
  refine ⟨by rw [List.length_set, h.lm], by rw [List.length_set, h.lt], fun y hy => ?_, fun y hy => ?_⟩
  · rw [getD_setB]
    by_cases e : x = y
    · subst e; rw [if_pos ⟨rfl, by rw [h.lm]; exact hx⟩]; simp
    · rw [if_neg (fun h => e h.1), h.m y hy, Bool.eq_iff_iff]; simp [Ne.symm e]
  · rw [getD_set]
    by_cases e : x = y
    · subst e; rw [if_pos ⟨rfl, by rw [h.lt]; exact hx⟩]; unfold onlyLow; rw [if_pos (by simp)]
    · rw [if_neg (fun h => e h.1), h.t y hy]; unfold onlyLow
      simp only [List.mem_cons]
      simp [Ne.symm e]
theorem NSp.pop {g : Gd} {P : List Nat} {M : List Bool} {T : List Int} {x : Nat} (h : NSp g (x :: P) M T) (hx : x < g.n) (hP : ¬ x ∈ P) : NSp g P (M.set x false) (T.set x (highT g x)) := by
  refine ⟨by rw [List.length_set, h.lm], by rw [List.length_set, h.lt], fun y hy => ?_, fun y hy => ?_⟩
  · rw [getD_setB]
    by_cases e : x = y
    · subst e; rw [if_pos ⟨rfl, by rw [h.lm]; exact hx⟩]; simp [hP]
    · rw [if_neg (fun h => e h.1), h.m y hy, Bool.eq_iff_iff]; simp [Ne.symm e]
  · rw [getD_set]
    by_cases e : x = y
    · subst e; rw [if_pos ⟨rfl, by rw [h.lt]; exact hx⟩]; unfold onlyLow; rw [if_neg hP]
    · rw [if_neg (fun h => e h.1), h.t y hy]; unfold onlyLow
      simp only [List.mem_cons]
      simp [Ne.symm e]
theorem Dr.cong {g : Gd} {t t' : Nat → Int} {c : Nat} {k : Int} (e : ∀ x, Go.Proofs.Ytdgibmgifgdpbaa.land g x → t x = t' x) (h : Dr g t c k) : Dr g t' c k :=
  let ⟨p, q, hp, hq, hk⟩ := h
  ⟨p, q, hp.extn e, hq.extn e, hk⟩
theorem onlyLow_cong {g : Gd} {L L' : List Nat} (h : ∀ x, x ∈ L ↔ x ∈ L') (x : Nat) : onlyLow g L x = onlyLow g L' x := by
  unfold onlyLow
  by_cases e : x ∈ L
  · rw [if_pos e, if_pos ((h x).1 e)]
  · rw [if_neg e, if_neg (fun k => e ((h x).2 k))]
/-- no way from x that avoids P is good -/
def NoWay (g : Gd) (P : List Nat) (c0 : Nat) (want : Int) (x : Nat) : Prop := ∀ L d, Trail g x L d → (∀ y ∈ L, ¬ y ∈ P) → ¬ Dr g (onlyLow g (P ++ L)) c0 want
theorem NoWay.step {g : Gd} {P : List Nat} {c0 x : Nat} {want : Int} (h0 : ¬ Dr g (onlyLow g (x :: P)) c0 want) (h : ∀ k, land g k → nb g x k → ¬ k ∈ x :: P → NoWay g (x :: P) c0 want k) : NoWay g P c0 want x := by
  intro L d hL hP hd
  cases hL with
  | one hl => exact h0 (hd.cong (fun y _ => onlyLow_cong (fun z => by simp [or_comm]) y))
  | @cons _ k _ L' hl hn ht hx =>
    have hk := ht.land k ht.mem
    refine h k hk hn (fun hm => ?_) L' d ht (fun y hy hm => ?_) (hd.cong (fun y _ => onlyLow_cong (fun z => by simp; constructor <;> (intro h; rcases h with h | h | h <;> simp [h])) y))
    · rcases List.mem_cons.1 hm with e | hm
      · subst e; exact hx ht.mem
      · exact hP k (List.mem_cons_of_mem _ ht.mem) hm
    · rcases List.mem_cons.1 hm with e | hm
      · subst e; exact hx hy
      · exact hP y (List.mem_cons_of_mem _ hy) hm
/-- what a call of grow answers -/
def GrowAns (w0 : World) (m n cT b3 b4 b5 b7 pT pM b10 b11 b12 b13 c0 : Nat) (hv sv : Value) (want : Int) (g : Gd) (u : Nat) (P : List Nat) (x : Nat) (left : Int) (fd : Bool) (e : Ending) (W' : World) : Prop :=
  ∃ (left' : Int) (fd' : Bool) (M' : List Bool) (T' : List Int), e = .returned (.tuple #[]) ∧ NM w0 m n cT b3 b4 b5 b7 pT pM b10 b11 b12 b13 c0 hv sv want left' fd' M' T' W' ∧ NSp g P M' T' ∧ left' < left ∧ (left ≤ 0 → left' = left - 1) ∧ (0 < left → - (20 * (u : Int)) ≤ left') ∧ (fd = true → fd' = true) ∧ (0 ≤ left' → fd' = false → NoWay g P c0 want x)
theorem short_of {n : Nat} {P : List Nat} (h1 : P.Nodup) (h2 : ∀ c ∈ P, c < n) : P.length ≤ n := by
  have h := len_le (f := id) (L := P) (L' := List.range n) h1 (fun _ _ _ _ h => h) (fun a ha => List.mem_range.2 (h2 a ha))
  simpa using h
end Go.Proofs.Ytdgibmgifgdpbaa
