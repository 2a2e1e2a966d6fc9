/-
  Parts of the proof, in the order in which they build: SiL.
-/
import Derived.Test.YtiacgaplhndlnaaF28
import Derived.Test.YtiacgaplhndlnaaF32
import Derived.Test.YtiacgaplhndlnaaF35
import Derived.Test.YtiacgaplhndlnaaF48
set_option linter.unusedVariables false
set_option linter.unusedSimpArgs false
namespace Go.Proofs.Ytiacgaplhndlnaa
open Go.RowKit Go.Shelf
open Lim

attribute [local go_sem] Oper.semAt_some

/-- two decks, and rows and boxes that are laid behind them -/
structure TwM (B : Nat) (cv dv : Value) (dl el : List Int) (w : World) (d e c c2 : Nat) (Q : List Row) (X : List (Nat × Obj)) (W : World) : Prop where
  me : Mem W (e + 1) [] Q X W
  dk : DeckF cv dl W d c
  ek : DeckF dv el W e c2
  r2 : RS B W dv el.length (u8s el)
  b : Below w.heap.size w W
  lt : w.heap.size ≤ d ∧ d < e ∧ B ≤ w.heap.size
section
variable {B : Nat} {cv dv : Value} {dl el : List Int} {w W W' : World} {d e c c2 : Nat} {Q : List Row} {X : List (Nat × Obj)}
theorem TwM.below (h : TwM B cv dv dl el w d e c c2 Q X W) (hb : Below W.heap.size W W') : TwM B cv dv dl el w d e c c2 Q X W' :=
  ⟨h.me.rebase (fun k _ h2 => hb.block k h2) hb.size, h.dk.keep (hb.block d h.dk.lt) (hb.mono (Nat.le_of_lt h.dk.lt)), h.ek.keep (hb.block e h.ek.lt) (hb.mono (Nat.le_of_lt h.ek.lt)), h.r2.below (hb.mono (Nat.le_trans h.lt.2.2 h.b.size)), h.b.trans (hb.mono h.b.size), h.lt⟩
theorem TwM.sepD (h : TwM B cv dv dl el w d e c c2 Q X W) (hs : Sep (fun k => k = d) W W') {c' : Nat} (hd : DeckF cv dl W' d c') : TwM B cv dv dl el w d e c' c2 Q X W' :=
  have h1 := h.lt
  have h2 := h.b.size
  have hb : Below B W W' := hs.below (by omega) (fun k e => by omega)
  ⟨h.me.rebase (fun k h3 h4 => hs.same k h4 (by omega)) hs.size, hd, h.ek.off h.r2 (by omega) (by omega) (by omega) hs, h.r2.below hb, h.b.trans (hs.below h2 (fun k e => by omega)), h.lt⟩
theorem TwM.sepE (h : TwM B cv dv dl el w d e c c2 Q X W) (hs : Sep (fun k => k = e) W W') {c' : Nat} (hd : DeckF dv el W' e c') : TwM B cv dv dl el w d e c c' Q X W' :=
  have h1 := h.lt
  have h2 := h.b.size
  have h3 := h.dk.lt
  ⟨h.me.rebase (fun k h3 h4 => hs.same k h4 (by omega)) hs.size, h.dk.keep (hs.same d h3 (by omega)) (hs.below (by omega) (fun k e => by omega)), hd, h.r2.below (hs.below (by omega) (fun k e => by omega)), h.b.trans (hs.below h2 (fun k e => by omega)), h.lt⟩
theorem TwM.lay (h : TwM B cv dv dl el w d e c c2 Q X W) (o : Obj) : TwM B cv dv dl el w d e c c2 Q ((W.heap.size, o) :: X) (W.alloc o) :=
  have h1 := h.below ((Below.refl _ W).alloc (Nat.le_refl _) o)
  ⟨(h.me.lay o).rebase (fun _ _ _ => rfl) (Nat.le_refl _), h1.dk, h1.ek, h1.r2, h1.b, h1.lt⟩
theorem TwM.nilQ (h : TwM B cv dv dl el w d e c c2 Q X W) (t size : Nat) : TwM B cv dv dl el w d e c c2 (nilRow t size :: Q) X W := ⟨h.me.nilQ _ _, h.dk, h.ek, h.r2, h.b, h.lt⟩
theorem TwM.more (h : TwM B cv dv dl el w d e c c2 Q X W) {c' c2' : Nat} (hc : c ≤ c') (hc2 : c2 ≤ c2') : TwM B cv dv dl el w d e c' c2' Q X W := ⟨h.me, h.dk.more hc, h.ek.more hc2, h.r2, h.b, h.lt⟩
theorem TwM.less (h : TwM B cv dv dl el w d e c c2 Q X W) {Q' : List Row} {X' : List (Nat × Obj)} (hQ : Q'.Sublist Q) (hX : X'.Sublist X) : TwM B cv dv dl el w d e c c2 Q' X' W := ⟨h.me.less (fun _ h => h) hQ hX, h.dk, h.ek, h.r2, h.b, h.lt⟩
/-- a block above both decks is written -/
theorem TwM.over (h : TwM B cv dv dl el w d e c c2 Q X W) {Q' : List Row} {X' : List (Nat × Obj)} (hm : Mem W (e + 1) [] Q' X' W') {T : Nat → Prop} (hs : Sep T W W') (hT : ∀ k, T k → e < k) : TwM B cv dv dl el w d e c c2 Q' X' W' :=
  have h1 := h.lt
  have h2 := h.b.size
  have h3 := h.dk.lt
  have h4 := h.ek.lt
  have hb : Below (e + 1) W W' := hs.below (by omega) (fun k e => hT k e)
  ⟨hm.rebase (fun _ _ _ => rfl) (Nat.le_refl _), h.dk.keep (hb.block d (by omega)) (hb.mono (by omega)), h.ek.keep (hb.block e (by omega)) (hb.mono (by omega)), h.r2.below (hb.mono (by omega)), h.b.trans (hb.mono (by omega)), h.lt⟩
theorem TwM.putQ {Q1 Q2 : List Row} {r r' : Row} (h : TwM B cv dv dl el w d e c c2 (Q1 ++ r :: Q2) X W) (hg : W.grownBy W' r.v.ownBlock) (ho : r'.Owned W' (e + 1)) (hb : r'.v.ownBlock = r.v.ownBlock ∨ ∃ k, r'.v.ownBlock = some k ∧ W.heap.size ≤ k) : TwM B cv dv dl el w d e c c2 (Q1 ++ r' :: Q2) X W' :=
  h.over (h.me.putQ hg ho hb) (Sep.of_grown hg) (fun k e => (owned_block (h.me.q r (by simp)) e).1)
theorem TwM.putX {X1 X2 : List (Nat × Obj)} {p : Nat} {cs : Array Value} {t : TypeId} {fr : Nat × Nat} (h : TwM B cv dv dl el w d e c c2 Q (X1 ++ (p, .cells cs t fr) :: X2) W) (j : Nat) (v : Value) : TwM B cv dv dl el w d e c c2 Q (X1 ++ (p, .cells (cs.setIfInBounds j v) t fr) :: X2) (W.setCell ⟨p, j, none⟩ v) :=
  h.over (h.me.putX j v) (Sep.set W p j v) (fun k e => by rw [e]; exact (h.me.x (p, .cells cs t fr) (by simp)).1)
end
theorem amid_congr {os : List Int} {r r' : Nat → Nat} (h : os.length = 9) (hr : IsReg ⟨3, os⟩ r) (hr' : IsReg ⟨3, os⟩ r') : amid os r' = amid os r := by
  have e : ∀ p, p < 9 → r p = r' p := fun p hp => hr.unique hr' p (by show p < os.length; omega)
  unfold amid
  rw [e 1 (by omega), e 3 (by omega), e 5 (by omega), e 7 (by omega)]
theorem dep_at {os : List Int} {r r' : Nat → Nat} {k p : Nat} (h : os.length = 9) (hr : IsReg ⟨3, os⟩ r) (hr' : IsReg ⟨3, os⟩ r') (hk : IsMany ⟨3, os⟩ r' k) (hp : p < 9) : r p < k ∧ decide ((depL ⟨3, os⟩ r' k).getD (r p) 0 > 0) = (decide (p = 4) && amid os r) := by
  have e : r p = r' p := hr.unique hr' p (by show p < os.length; omega)
  have hlt : r p < k := by rw [e]; exact hk.lt p (by show p < os.length; omega)
  refine ⟨hlt, ?_⟩
  rw [amid_congr h hr' hr, ← dep3 h hr' hk hp, ← e]
  have : (depL ⟨3, os⟩ r' k).getD (r p) 0 = (inCount ⟨3, os⟩ r' (r p) k : Int) := by
    unfold depL
    rw [List.getD_eq_getElem?_getD, List.getElem?_map, List.getElem?_range hlt]
    rfl
  rw [this]
  simp
/-- what is owned above e stays where only e is written -/
theorem rs_off {S e n sz cap : Nat} {a : Option Addr} {t : TypeId} {W W' : World} {xs : List Value} (ho : W.ownsRow S t sz (.slice a n cap) n xs) (he : e < S) (hs : Sep (fun k => k = e) W W') : RS W.heap.size W' (.slice a n cap) n xs := by
  obtain ⟨a', cap', e1, h⟩ := RS.of_owns ho
  cases e1
  refine ⟨a, cap, rfl, fun hx => ?_⟩
  obtain ⟨b, off, rfl, hb, hc⟩ := h hx
  refine ⟨b, off, rfl, hb, fun j u hj => hs.cell (hc j u hj) (fun e' => ?_)⟩
  have := (owned_block (r := ⟨t, sz, .slice (some ⟨b, off, none⟩) n cap, n, xs⟩) ho (k := b) rfl).1
  omega
set_option maxRecDepth 20000 in
set_option maxHeartbeats 1000000 in
/-- two lists of different lengths -/
theorem sequal_ne {n m c c2 : Nat} {a b : Option Addr} {w : World} (h : n ≠ m) :
    Calls Try.prog 14 #[.slice a n c, .slice b m c2] w fun e w' => e = .returned (.bool false) ∧ Below w.heap.size w w' := by
  have t : ((n : Int) != m) = true := by rw [bne_iff_ne]; omega
  clear h
  go_enter Try.func14, Try.ntmps14
  go_wp2
  go_ret
  exact ⟨rfl, Below.refl _ _⟩
set_option maxRecDepth 20000 in
set_option maxHeartbeats 8000000 in
theorem fieldedt_any {B : Nat} {cv cv2 : Value} {l l2 : List Int} {w : World} (hB : B ≤ w.heap.size) (hv : RS B w cv l.length (u8s l)) (hu : ∀ x ∈ l, 0 ≤ x ∧ x ≤ 255) (hv2 : RS B w cv2 l2.length (u8s l2)) (hu2 : ∀ x ∈ l2, 0 ≤ x ∧ x ≤ 255) :
    Calls Try.prog 5 #[cv, cv2] w fun e w' => e = .returned (.bool true) ∧ Below w.heap.size w w' := by
  have CO := Lib.hid (ofF_any hB hv hu)
  have HCV := Lib.hid (And.intro hv2 (And.intro hu2 hB))
  obtain ⟨xa, xc, rfl, -⟩ := hv
  obtain ⟨ya, yc, rfl, -⟩ := hv2
  clear hB hu hu2
  go_enter Try.func5, Try.ntmps5
  go_wp2_with fail
  refine CO.out.mono ?_
  rintro e w1 ⟨rfl, hdk, hb, hz⟩
  have CP := Lib.hid (ofF_any (B := B) (w := w1) (by have := HCV.out.2.2; omega) (HCV.out.1.below (hb.mono HCV.out.2.2)) HCV.out.2.1)
  have HB1 := Lib.hid (And.intro hdk (And.intro hb hz))
  clear hdk hb hz CO
  go_wp2_with fail
  refine CP.out.mono ?_
  rintro e w2 ⟨rfl, hdk2, hb2, hz2⟩
  obtain ⟨d, hd⟩ : ∃ d, d = w.heap.size := ⟨_, rfl⟩
  obtain ⟨q, hq⟩ : ∃ d, d = w1.heap.size := ⟨_, rfl⟩
  have HM2 : Hid (TwM B (.slice xa l.length xc) (.slice ya l2.length yc) l l2 w d q 0 0 [] [] w2) := Lib.hid (by
    have hb1 := HB1.out.2.1
    have hdk := HB1.out.1
    rw [← hd] at hdk
    have h3 := hdk.lt
    have hz1 := HB1.out.2.2
    rw [← hq] at hdk2
    exact ⟨Mem.rowsR (Below.refl _ w2) (by omega) (fun _ h => absurd h List.not_mem_nil), hdk.keep (hb2.block d h3) (hb2.mono (Nat.le_of_lt h3)), hdk2, (HCV.out.1.below (hb1.mono HCV.out.2.2)).below (hb2.mono (by have := HCV.out.2.2; omega)), hb1.trans (hb2.mono hb1.size), by omega, by omega, HCV.out.2.2⟩)
  rw [← hd, ← hq]
  clear hdk2 hb2 hz2 CP HB1 hd hq HCV
  go_upto_region 3 with (fail)
  have HM3 := Lib.hid ((HM2.out.lay (.cells #[.int .i64 3, .slice none 0 0] 25 (0, 0))).nilQ 3 1)
  obtain ⟨q7, hq7⟩ : ∃ d, d = w2.heap.size := ⟨_, rfl⟩
  rw [← hq7] at HM3 ⊢
  generalize w2.alloc (.cells #[.int .i64 3, .slice none 0 0] 25 (0, 0)) = w3 at HM3 ⊢
  clear HM2 hq7
  go_wp2_with fail
  go_loopw [27] (fun iv W => ∃ (i : Nat) (os : List Int) (v : Value), i ≤ 9 ∧ iv = .int .i64 i ∧ Hid (TwM B (.slice xa l.length xc) (.slice ya l2.length yc) l l2 w d q (0 + 40 * i) (0 + 16 * i) [rwI v os.length os] [(q7, .cells #[.int .i64 3, v] 25 (0, 0))] W ∧ os.length = i ∧ ∀ x ∈ os, 0 ≤ x ∧ x ≤ 2)) (fun iv _ => 9 - (intOf iv).toNat)
  case atStart => exact ⟨0, [], _, by omega, rfl, Lib.hid ⟨HM3.out, rfl, fun x h => by cases h⟩⟩
  case round =>
    clear HM3
    obtain ⟨i, os, v, hi, rfl, hI⟩ := hrel
    by_cases hlt : i < 9
    · have hlt' : (i : Int) < 9 := by omega
      have CM := Lib.hid (made11_any (N := 6) (by omega) hI.out.1.dk (by omega))
      go_wp2_with fail
      refine CM.out.mono ?_
      rintro e w4 ⟨f, pv, rfl, hf, hfn, ho, hdk, hs⟩
      obtain ⟨pa, pc, rfl⟩ : ∃ a cap, pv = .slice a f.n cap := row_form (r := rwA pv f.P) ho
      have HM4 := Lib.hid (hI.out.1.sepD hs hdk)
      have he : q < wr.heap.size := hI.out.1.ek.lt
      go_upto_region 6 with (fail)
      have hb5 : Below w4.heap.size w4 (w4.alloc (.cells #[.int .i64 f.years, .int .i64 f.gap, .slice pa f.n pc] 69)).drew := ((Below.refl _ w4).alloc (Nat.le_refl _) _).drew
      have HM5 := Lib.hid ((HM4.out.lay (.cells #[.int .i64 f.years, .int .i64 f.gap, .slice pa f.n pc] 69 (0, 0))).below ((Below.refl _ _).drew))
      have HO5 : Hid (((w4.alloc (.cells #[.int .i64 f.years, .int .i64 f.gap, .slice pa f.n pc] 69)).drew).ownsRow wr.heap.size 82 3 (.slice pa f.n pc) f.n (paps f.P)) := Lib.hid (owned_keep (r := rwA (.slice pa f.n pc) f.P) ho (fun k hk => hb5.block k (owned_block (r := rwA (.slice pa f.n pc) f.P) ho hk).2.1))
      have HF := Lib.hid (And.intro hf (And.intro hfn he))
      obtain ⟨q8, hq8⟩ : ∃ q, q = w4.heap.size := ⟨_, rfl⟩
      rw [← hq8] at HM5 ⊢
      generalize w4.alloc (.cells #[.int .i64 f.years, .int .i64 f.gap, .slice pa f.n pc] 69) = w5 at HM5 HO5 ⊢
      clear hq8 hb5 HM4 CM ho hdk hs hf hfn he
      have hf16 : f.n ≤ 16 := by have := HF.out.2.1; omega
      have CT := Lib.hid (true_any (B := w5.drew.heap.size) HF.out.1 HM5.out.ek (by omega) (fun W' hs => rs_off HO5.out HF.out.2.2 hs))
      have hC : (fun W => W.cell? ⟨q8, 0, none⟩ = some (.int .i64 f.years) ∧ W.cell? ⟨q8, 1, none⟩ = some (.int .i64 f.gap) ∧ W.cell? ⟨q8, 2, none⟩ = some (.slice pa f.n pc)) w5.drew := by { have h1 := (HM5.out.me.x _ List.mem_cons_self).2; simp [World.cell?, h1] }
      have HOS := Lib.hid hI.out.2
      clear hI
      refine Lim.regC' (fun W => W.cell? ⟨q8, 0, none⟩ = some (.int .i64 f.years) ∧ W.cell? ⟨q8, 1, none⟩ = some (.int .i64 f.gap) ∧ W.cell? ⟨q8, 2, none⟩ = some (.slice pa f.n pc)) [] #[false, false, false, false, false, false, false, false, false, false] (by kernel_rfl) rfl ?_
      refine Lim.stepR 0 (fun _ => trivial) rfl (by kernel_rfl) (fun _ _ _ _ h => h) hC rfl ?_; apply Exists.intro; refine ⟨?_, ?_⟩
      · rintro w ⟨r1, r2, r3⟩; go_simp; try with_reducible rfl
      simp only [Act.put, List.setIfInBounds_toArray, List.set_cons_succ, List.set_cons_zero]
      refine Lim.stepR 1 (fun _ => trivial) rfl (by kernel_rfl) (fun _ _ _ _ h => h) hC rfl ?_; apply Exists.intro; refine ⟨?_, ?_⟩
      · rintro w ⟨r1, r2, r3⟩; go_simp; try with_reducible rfl
      simp only [Act.put, List.setIfInBounds_toArray, List.set_cons_succ, List.set_cons_zero]
      refine Lim.stepR 2 (fun _ => trivial) rfl (by kernel_rfl) (fun _ _ _ _ h => h) hC rfl ?_; apply Exists.intro; refine ⟨?_, ?_⟩
      · rintro w ⟨r1, r2, r3⟩; go_simp; try with_reducible rfl
      simp only [Act.put, List.setIfInBounds_toArray, List.set_cons_succ, List.set_cons_zero]
      refine Lim.stepE 3 (fun _ => trivial) rfl (by kernel_rfl) rfl (fun K hK => ?_)   -- E call
      go_simp
      refine ⟨rfl, (callsIn_wide.2 CT.out).mono ?_⟩
      rintro e w6 ⟨tv, T, rfl, hIs, hto, hek, hse⟩
      have HM6 := Lib.hid (HM5.out.sepE hse hek)
      have hC3 : (fun W => W.cell? ⟨q8, 0, none⟩ = some (.int .i64 f.years) ∧ W.cell? ⟨q8, 1, none⟩ = some (.int .i64 f.gap) ∧ W.cell? ⟨q8, 2, none⟩ = some (.slice pa f.n pc)) w6 := by { have h1 := (HM6.out.me.x _ List.mem_cons_self).2; simp [World.cell?, h1] }
      have CW := Lib.hid (Owner_any (B := w6.heap.size) HF.out.1 hIs (Nat.le_refl _) ((rs_off HO5.out HF.out.2.2 hse).mono hse.size) (RS.of_owns hto))
      refine hK _ _ hC3 ?_
      clear hIs hto hek hse CT hC
      simp only [Act.put, List.setIfInBounds_toArray, List.set_cons_succ, List.set_cons_zero]
      refine Lim.stepE 4 (fun _ => trivial) rfl (by kernel_rfl) rfl (fun K hK => ?_)   -- E call
      go_simp
      refine ⟨rfl, (callsIn_wide.2 CW.out).mono ?_⟩
      rintro e w7 ⟨rfl, hb⟩
      have HM7 := Lib.hid (HM6.out.below hb)
      have hC4 : (fun W => W.cell? ⟨q8, 0, none⟩ = some (.int .i64 f.years) ∧ W.cell? ⟨q8, 1, none⟩ = some (.int .i64 f.gap) ∧ W.cell? ⟨q8, 2, none⟩ = some (.slice pa f.n pc)) w7 := by { have h1 := (HM7.out.me.x _ List.mem_cons_self).2; simp [World.cell?, h1] }
      have HX := Lib.hid (ownerF_range HF.out.1 T)
      generalize ownerF f T = x at HX ⊢
      refine hK _ _ hC4 ?_
      clear hb CW HM6 hC3
      simp only [Act.put, List.setIfInBounds_toArray, List.set_cons_succ, List.set_cons_zero]
      refine Lim.stepR 5 (fun _ => trivial) rfl (by kernel_rfl) (fun _ _ _ _ h => h) hC4 rfl ?_; apply Exists.intro; refine ⟨?_, ?_⟩
      · rintro w ⟨r1, r2, r3⟩; go_simp; try with_reducible rfl
      simp only [Act.put, List.setIfInBounds_toArray, List.set_cons_succ, List.set_cons_zero]
      refine Lim.stepR 6 (fun _ => trivial) rfl (by kernel_rfl) (fun _ _ _ _ h => h) hC4 rfl ?_; apply Exists.intro; refine ⟨?_, ?_⟩
      · rintro w ⟨r1, r2, r3⟩; go_simp; try with_reducible rfl
      simp only [Act.put, List.setIfInBounds_toArray, List.set_cons_succ, List.set_cons_zero]
      refine Lim.stepR 7 (fun _ => trivial) rfl (by kernel_rfl) (fun _ _ _ _ h => h) hC4 rfl ?_; apply Exists.intro; refine ⟨?_, ?_⟩
      · rintro w ⟨r1, r2, r3⟩; go_simp; try with_reducible rfl
      simp only [Act.put, List.setIfInBounds_toArray, List.set_cons_succ, List.set_cons_zero]
      refine Lim.stepR 8 (fun _ => trivial) rfl (by kernel_rfl) (fun _ _ _ _ h => h) hC4 rfl ?_; apply Exists.intro; refine ⟨?_, ?_⟩
      · rintro w ⟨r1, r2, r3⟩; go_simp; try with_reducible rfl
      simp only [Act.put, List.setIfInBounds_toArray, List.set_cons_succ, List.set_cons_zero]
      refine Lim.stepR 9 (fun _ => trivial) rfl (by kernel_rfl) (fun _ _ _ _ h => h) hC4 rfl ?_; apply Exists.intro; refine ⟨?_, ?_⟩
      · rintro w ⟨r1, r2, r3⟩; go_simp; try with_reducible rfl
      simp only [Act.put, List.setIfInBounds_toArray, List.set_cons_succ, List.set_cons_zero]
      refine Lim.stepD (by kernel_rfl) ?_
      clear hC4 HO5 HM5
      have HM8 := Lib.hid (HM7.out.less (List.Sublist.refl _) (List.sublist_cons_self _ _))
      obtain ⟨va, vc, ev⟩ : ∃ a cap, v = .slice a os.length cap := row_form (r := rwI v os.length os) (HM8.out.me.q _ (List.mem_singleton.2 rfl))
      subst ev
      have hol : os.length ≤ 9 := by have := HOS.out.1; omega
      have b1 : w7.cell? ⟨q7, 1, none⟩ = some (.slice va os.length vc) := by { have h1 := (HM8.out.me.x _ List.mem_cons_self).2; simp [World.cell?, h1] }
      have HMC := Lib.hid (HM8.out.below ((Below.refl _ w7).alloc (Nat.le_refl _) (.cells #[.int .i64 x] 3)))
      have HOX : Hid ((w7.alloc (.cells #[.int .i64 x] 3)).ownsRow (q + 1) 3 1 (.slice va os.length vc) os.length (ints os)) := Lib.hid (HMC.out.me.q (rwI (.slice va os.length vc) os.length os) (List.mem_singleton.2 rfl))
      obtain ⟨i0, hi0, hz0, hz1, hz2⟩ := info_parts Try.infoInt
      have HI0 := Lib.hid (And.intro hi0 (And.intro hz0 (And.intro hz1 hz2)))
      clear hi0 hz0 hz1 hz2 HM7
      have key : ∀ (v' : Value) (w12 : World), w12.ownsRow (q + 1) 3 1 v' (os.length + 1) (ints os ++ [.int .i64 x]) → (w7.alloc (.cells #[.int .i64 x] 3)).grownBy w12 (Value.ownBlock (.slice va os.length vc)) → (v'.ownBlock = Value.ownBlock (.slice va os.length vc) ∨ v'.ownBlock = some (w7.alloc (.cells #[.int .i64 x] 3)).heap.size) → TwM B (.slice xa l.length xc) (.slice ya l2.length yc) l l2 w d q (0 + 40 * i + 40) (0 + 16 * i + f.n) [rwI v' (os.length + 1) (os ++ [x])] [(q7, .cells #[.int .i64 3, .slice va os.length vc] 25 (0, 0))] w12 ∧ ∃ g cap, v' = .slice (some ⟨g, 0, none⟩) (os.length + 1) cap := by
        intro v' w12 hown hgrow hat
        have hr : (rwI v' (os.length + 1) (os ++ [x])).Owned w12 (q + 1) := by
          show w12.ownsRow (q + 1) 3 1 v' (os.length + 1) (ints (os ++ [x]))
          simpa [ints] using hown
        exact ⟨HMC.out.putQ (Q1 := []) (r' := rwI v' (os.length + 1) (os ++ [x])) hgrow hr (hat.imp id fun h => ⟨_, h, Nat.le_refl _⟩), form_pos (r := rwI v' (os.length + 1) (os ++ [x])) hr (Nat.succ_pos _)⟩
      go_upto_region 10 with (at_builtin; refine wpList_append_own_at _ rfl _ _ 23 rfl (q + 1) 3 i0 (.int .i64 0) 1 8 Try.underlying23 HI0.out.1 HI0.out.2.1 HI0.out.2.2.1 HI0.out.2.2.2 rfl (by decide) _ _ _ rfl HOX.out ⟨w7.heap.size, 0, none⟩ 1 1 [.int .i64 x] rfl rfl (cell_one_new _ _ _) (by simp [Value.oneCell']) (by unfold maxLen; omega) (by omega) HMC.out.me.o ?_; intro v' w12 hown8 hgrow _ hat; obtain ⟨hm12, g8, k8, e8⟩ := key v' w12 hown8 hgrow hat; subst e8; have HMD := Lib.hid hm12; have d2 : w12.cell? ⟨q7, 1, none⟩ = some (.slice va os.length vc) := (by { have h1 := (HMD.out.me.x _ List.mem_cons_self).2; simp [World.cell?, h1] }); have f2 : w12.frozen? ⟨q7, 1, none⟩ = false := (by { have h1 := (HMD.out.me.x _ List.mem_cons_self).2; simp [World.frozen?, h1] }); clear hown8 hgrow hat hm12)
      have HME : Hid (TwM B (.slice xa l.length xc) (.slice ya l2.length yc) l l2 w d q (0 + 40 * i + 40) (0 + 16 * i + f.n) [rwI (.slice (some ⟨g8, 0, none⟩) (os.length + 1) k8) (os.length + 1) (os ++ [x])] [(q7, .cells #[.int .i64 3, .slice (some ⟨g8, 0, none⟩) (os.length + 1) k8] 25 (0, 0))] (w12.setCell ⟨q7, 1, none⟩ (.slice (some ⟨g8, 0, none⟩) (os.length + 1) k8))) := Lib.hid (HMD.out.putX (X1 := []) 1 _)
      clear d2 f2 HMD b1 HMC HOX key
      go_wp2_with fail
      go_roundw
      case rel => exact ⟨i + 1, os ++ [x], .slice (some ⟨g8, 0, none⟩) (os.length + 1) k8, by omega, by go_num, Lib.hid ⟨by rw [List.length_append]; exact HME.out.more (by omega) (by omega), by rw [List.length_append, HOS.out.1]; rfl, fun y hy => by
        rcases List.mem_append.1 hy with hy | hy
        · exact HOS.out.2 y hy
        · rw [List.mem_singleton.1 hy]; exact HX.out⟩⟩
      case measure => simp [intOf]; omega
    · have HIN : Hid (i = 9) := Lib.hid (by omega)
      have hlt' : ¬ (i : Int) < 9 := by omega
      have hl9 : os.length = 9 := by have := hI.out.2.1; have := HIN.out; omega
      obtain ⟨va, vc, ev⟩ : ∃ g cap, v = .slice (some ⟨g, 0, none⟩) 9 cap := by
        obtain ⟨a, cap, e⟩ := form_pos (r := rwI v os.length os) (hI.out.1.me.q _ (List.mem_singleton.2 rfl)) (by show 0 < os.length; omega)
        exact ⟨a, cap, by rw [← hl9]; exact e⟩
      subst ev
      have HL9 := Lib.hid hl9
      have HMA : Hid (TwM B (.slice xa l.length xc) (.slice ya l2.length yc) l l2 w d q 360 144 [rwI (.slice (some ⟨va, 0, none⟩) 9 vc) 9 os] [(q7, .cells #[.int .i64 3, .slice (some ⟨va, 0, none⟩) 9 vc] 25 (0, 0))] wr) := Lib.hid (by
        have h := hI.out.1
        rw [hl9, HIN.out] at h
        exact h)
      have HOS := Lib.hid hI.out.2.2
      have HE : Hid (errE 3 os = 0) := Lib.hid (by
        unfold errE countB
        rw [hl9, if_pos (by decide), if_pos]
        rw [List.all_eq_true]
        intro k hk
        have hk9 : k < os.length := by rw [hl9]; exact List.mem_range.1 hk
        rw [List.getD_eq_getElem?_getD, List.getElem?_eq_getElem hk9]
        have := hI.out.2.2 _ (List.getElem_mem hk9)
        exact inB_true (by simp only [Option.getD_some]; omega) (by simp only [Option.getD_some]; omega))
      have HRS : Hid (RS wr.heap.size wr (.slice (some ⟨va, 0, none⟩) 9 vc) os.length (ints os)) := Lib.hid (by rw [hl9]; exact RS.of_owns (HMA.out.me.q (rwI (.slice (some ⟨va, 0, none⟩) 9 vc) 9 os) (List.mem_singleton.2 rfl)))
      have b0 := (HMA.out.me.box2 List.mem_cons_self).1
      have b1 := (HMA.out.me.box2 List.mem_cons_self).2.1
      have CR := Lib.hid (Regions_any (wd := 3) (by omega) (Nat.le_refl _) HRS.out)
      clear hI hl9
      go_wp2_with fail
      refine CR.out.mono ?_
      clear b0 b1
      rintro e wa ⟨hb, ⟨-, nv, r, k, rfl, hr, hk, ho⟩ | ⟨he, -⟩⟩
      case inr => exact absurd HE.out he
      rw [HL9.out] at ho
      obtain ⟨na, nc, rfl⟩ : ∃ g cap, nv = .slice (some ⟨g, 0, none⟩) 9 cap := form_pos (r := rwI nv 9 (regL r 9)) ho (by show 0 < 9; omega)
      have HR : Hid (IsReg ⟨3, os⟩ r ∧ IsMany ⟨3, os⟩ r k) := Lib.hid ⟨hr, hk⟩
      have HN : Hid (RS wa.heap.size wa (.slice (some ⟨na, 0, none⟩) 9 nc) 9 (ints (regL r 9))) := Lib.hid (RS.of_owns ho)
      have HMB := Lib.hid (HMA.out.below hb)
      replace HRS := Lib.hid (RS.on HRS.out hb)
      have b0 := (HMB.out.me.box2 List.mem_cons_self).1
      have b1 := (HMB.out.me.box2 List.mem_cons_self).2.1
      have CD := Lib.hid (Depths_any (wd := 3) (by rw [HL9.out]; omega) (Nat.le_refl _) HRS.out)
      clear hb hr hk ho HMA CR
      go_wp2_with fail
      refine CD.out.mono ?_
      clear b0 b1
      rintro e wb ⟨hb, ⟨-, dv, r2, k2, rfl, hr2, hk2, ho⟩ | ⟨he, -⟩⟩
      case inr => exact absurd HE.out he
      obtain ⟨da, dc, rfl⟩ : ∃ g cap, dv = .slice (some ⟨g, 0, none⟩) k2 cap := form_pos (r := rwI dv k2 (depL ⟨3, os⟩ r2 k2)) ho (by have h1 := HL9.out; have := hk2.lt 0 (by show 0 < os.length; omega); show 0 < k2; omega)
      have HR2 : Hid (IsReg ⟨3, os⟩ r2 ∧ IsMany ⟨3, os⟩ r2 k2) := Lib.hid ⟨hr2, hk2⟩
      have HD : Hid (RS wb.heap.size wb (.slice (some ⟨da, 0, none⟩) k2 dc) k2 (ints (depL ⟨3, os⟩ r2 k2))) := Lib.hid (RS.of_owns ho)
      have HMC := Lib.hid (HMB.out.below hb)
      replace HRS := Lib.hid (RS.on HRS.out hb)
      replace HN := Lib.hid (RS.on HN.out hb)
      have b0 := (HMC.out.me.box2 List.mem_cons_self).1
      have b1 := (HMC.out.me.box2 List.mem_cons_self).2.1
      have CL := Lib.hid (Clear_any (wd := 3) (by rw [HL9.out]; omega) (Nat.le_refl _) HRS.out)
      clear hb hr2 hk2 ho HMB CD
      go_wp2_with fail
      refine CL.out.mono ?_
      clear b0 b1
      rintro e wc ⟨hb, ⟨he, -⟩ | ⟨-, r3, k3, TT, O, lv, pv, hr3, hk3, hT, hO, rfl, ho, hp⟩⟩
      case inl => exact absurd HE.out he
      rw [HL9.out] at ho
      obtain ⟨la, lc, rfl⟩ : ∃ g cap, lv = .slice (some ⟨g, 0, none⟩) 9 cap := form_pos (r := rwI lv 9 ((List.range 9).map O)) ho (by show 0 < 9; omega)
      have hG := plot3 (r := r3) HL9.out hr3 hk3 hT hO
      rw [amid_congr HL9.out HR.out.1 hr3] at hG
      obtain ⟨G, hGe⟩ : ∃ G : List Int, G = if amid os r = true then [4] else [] := ⟨_, rfl⟩
      rw [← hGe] at hG
      have hpl : (plotL O (fun p => os.getD p 0) os.length).length = G.length := by rw [← hG, List.length_map]
      rw [hG, hpl] at hp
      obtain ⟨ga, gc, rfl⟩ : ∃ a cap, pv = .slice a G.length cap := row_form (r := rwI pv G.length G) hp
      have HOP : Hid (∀ p, p < 9 → O p = if p = 4 ∧ amid os r = true then os.getD 1 0 else os.getD p 0) := Lib.hid (fun p hp => by
        rw [← amid_congr HL9.out HR.out.1 hr3]; exact clr3 (r := r3) HL9.out hr3 hk3 hT hO hp)
      have HDP : Hid (∀ p, p < 9 → r p < k2 ∧ decide ((depL ⟨3, os⟩ r2 k2).getD (r p) 0 > 0) = (decide (p = 4) && amid os r)) := Lib.hid (fun p hp => dep_at HL9.out HR.out.1 HR2.out.1 HR2.out.2 hp)
      have HGE := Lib.hid hGe
      have HLR : Hid (RS wc.heap.size wc (.slice (some ⟨la, 0, none⟩) 9 lc) 9 (ints ((List.range 9).map O))) := Lib.hid (RS.of_owns ho)
      have HGR : Hid (RS wc.heap.size wc (.slice ga G.length gc) G.length (ints G)) := Lib.hid (RS.of_owns hp)
      have HMD := Lib.hid (HMC.out.below hb)
      replace HN := Lib.hid (RS.on HN.out hb)
      replace HD := Lib.hid (RS.on HD.out hb)
      clear hG hGe hpl ho hp hb hT hO hr3 hk3 HMC CL HRS HE
      go_upto_region 14 with (fail)
      have hb5 := (Below.refl _ wc).alloc (Nat.le_refl _) (.cells #[.int .i64 3, .slice (some ⟨la, 0, none⟩) 9 lc] 25 (0, 0))
      have HME := Lib.hid (HMD.out.lay (.cells #[.int .i64 3, .slice (some ⟨la, 0, none⟩) 9 lc] 25 (0, 0)))
      replace HN := Lib.hid (RS.on HN.out hb5)
      replace HD := Lib.hid (RS.on HD.out hb5)
      replace HLR := Lib.hid (RS.on HLR.out hb5)
      replace HGR := Lib.hid (RS.on HGR.out hb5)
      obtain ⟨q15, hq15⟩ : ∃ q, q = wc.heap.size := ⟨_, rfl⟩
      rw [← hq15] at HME ⊢
      generalize wc.alloc (.cells #[.int .i64 3, .slice (some ⟨la, 0, none⟩) 9 lc] 25 (0, 0)) = wd at HME HN HD HLR HGR ⊢
      clear hq15 hb5 HMD
      have m1 := (HME.out.me.box2 List.mem_cons_self).2.1
      have HRK : Hid (k2 ≤ 9) := Lib.hid (Nat.le_trans HR2.out.2.le (by have := HL9.out; show os.length ≤ 9; omega))
      go_upto_region 16 with (fail)
      obtain ⟨a, ha⟩ : ∃ a, a = amid os r := ⟨_, rfl⟩
      have HAM := Lib.hid ha
      clear m1
      go_cut [18] from 85 to 120 (fun bv wx => bv = .bool a ∧ Hid (Below wd.heap.size wd wx))
      case first =>
        have g1 : (regL r 9).getD 1 0 = (r 1 : Int) := getD_mapR (fun p => (r p : Int)) (by omega)
        have g3 : (regL r 9).getD 3 0 = (r 3 : Int) := getD_mapR (fun p => (r p : Int)) (by omega)
        have g5 : (regL r 9).getD 5 0 = (r 5 : Int) := getD_mapR (fun p => (r p : Int)) (by omega)
        have g7 : (regL r 9).getD 7 0 = (r 7 : Int) := getD_mapR (fun p => (r p : Int)) (by omega)
        have n1 := rs_cell (p := 1) HN.out (by simp [regL])
        have n3 := rs_cell (p := 3) HN.out (by simp [regL])
        have n5 := rs_cell (p := 5) HN.out (by simp [regL])
        have n7 := rs_cell (p := 7) HN.out (by simp [regL])
        have o1 := HME.out.me.cellI (n := 9) (cap := vc) (.inr (List.mem_singleton.2 rfl)) (j := 1) (by rw [HL9.out]; omega)
        have o4 := HME.out.me.cellI (n := 9) (cap := vc) (.inr (List.mem_singleton.2 rfl)) (j := 4) (by rw [HL9.out]; omega)
        have m1 := (HME.out.me.box2 (List.mem_cons_of_mem _ List.mem_cons_self)).2.1
        rw [g1] at n1
        rw [g3] at n3
        rw [g5] at n5
        rw [g7] at n7
        have hA : a = (decide ((r 1 : Int) = r 3) && decide ((r 1 : Int) = r 5) && decide ((r 1 : Int) = r 7) && decide (os.getD 4 0 ≠ os.getD 1 0)) := by
          rw [ha]; unfold amid; simp only [Int.natCast_inj]
        generalize (r 1 : Int) = x1 at n1 hA
        generalize (r 3 : Int) = x3 at n3 hA
        generalize (r 5 : Int) = x5 at n5 hA
        generalize (r 7 : Int) = x7 at n7 hA
        generalize os.getD 1 0 = y1 at o1 hA
        generalize os.getD 4 0 = y4 at o4 hA
        clear g1 g3 g5 g7 ha
        by_cases e3 : x1 = x3
        · skip
          by_cases e5 : x1 = x5
          · skip
            by_cases e7 : x1 = x7
            · skip
              by_cases e9 : y4 = y1
              · skip
                have eb : a = false := by rw [hA, decide_eq_true e3, decide_eq_true e5, decide_eq_true e7, decide_eq_false (fun h => h e9)]; rfl
                subst eb
                clear hA
                subst e3
                subst e5
                subst e7
                subst e9
                go_quiet (fail)
                go_wp2
                go_meet
                case rel => exact ⟨rfl, Lib.hid (below_drewN (Below.refl _ _) _)⟩
              · have t9 : (y4 != y1) = true := by simp [e9]
                have eb : a = true := by rw [hA, decide_eq_true e3, decide_eq_true e5, decide_eq_true e7, decide_eq_true e9]; rfl
                subst eb
                clear hA
                subst e3
                subst e5
                subst e7
                go_quiet (fail)
                go_wp2
                go_meet
                case rel => exact ⟨rfl, Lib.hid (below_drewN (Below.refl _ _) _)⟩
            · have t7 : (x1 == x7) = false := by simp [e7]
              have eb : a = false := by rw [hA, decide_eq_true e3, decide_eq_true e5, decide_eq_false e7]; rfl
              subst eb
              clear hA
              subst e3
              subst e5
              go_quiet (fail)
              go_wp2
              go_meet
              case rel => exact ⟨rfl, Lib.hid (below_drewN (Below.refl _ _) _)⟩
          · have t5 : (x1 == x5) = false := by simp [e5]
            have eb : a = false := by rw [hA, decide_eq_true e3, decide_eq_false e5]; rfl
            subst eb
            clear hA
            subst e3
            go_quiet (fail)
            go_wp2
            go_meet
            case rel => exact ⟨rfl, Lib.hid (below_drewN (Below.refl _ _) _)⟩
        · have t3 : (x1 == x3) = false := by simp [e3]
          have eb : a = false := by rw [hA, decide_eq_false e3]; rfl
          subst eb
          clear hA
          go_quiet (fail)
          go_wp2
          go_meet
          case rel => exact ⟨rfl, Lib.hid (below_drewN (Below.refl _ _) _)⟩
      case rest =>
        obtain ⟨rfl, hbx⟩ := hcut
        have HMF := Lib.hid (HME.out.below hbx.out)
        replace HN := Lib.hid (RS.on HN.out hbx.out)
        replace HD := Lib.hid (RS.on HD.out hbx.out)
        replace HLR := Lib.hid (RS.on HLR.out hbx.out)
        replace HGR := Lib.hid (RS.on HGR.out hbx.out)
        clear hbx HME ha
        go_wp2_with fail
        go_loopw [123] (fun iv W => ∃ p : Nat, p ≤ 9 ∧ iv = .int .i64 p ∧ Hid (Below wc.heap.size wc W)) (fun iv _ => 9 - (intOf iv).toNat)
        case atStart => exact ⟨0, by omega, rfl, Lib.hid (Below.refl _ _)⟩
        case round =>
          obtain ⟨p, hp, rfl, hI⟩ := hrel
          by_cases hlt : p < 9
          · have hlt' : (p : Int) < 9 := by omega
            have hin := HDP.out p hlt
            have hop := HOP.out p hlt
            have nP := hI.out.on (rs_cell (p := p) HN.out (by simp [regL]; omega))
            rw [show (regL r 9).getD p 0 = (r p : Int) from getD_mapR (fun p => (r p : Int)) hlt] at nP
            have dR := hI.out.on (rs_cell (p := r p) HD.out (by simp [depL]; exact hin.1))
            have mP := hI.out.on (HMF.out.me.cellI (n := 9) (cap := vc) (.inr (List.mem_singleton.2 rfl)) (j := p) (by rw [HL9.out]; exact hlt))
            have m1 := hI.out.on (HMF.out.me.cellI (n := 9) (cap := vc) (.inr (List.mem_singleton.2 rfl)) (j := 1) (by rw [HL9.out]; omega))
            have lP := hI.out.on (rs_cell (p := p) HLR.out (by simp; exact hlt))
            rw [getD_mapR O hlt, hop] at lP
            have b1 := hI.out.on (HMF.out.me.box2 (List.mem_cons_of_mem _ List.mem_cons_self)).2.1
            have c1 := hI.out.on (HMF.out.me.box2 List.mem_cons_self).2.1
            have hk2 : k2 ≤ 9 := HRK.out
            have hrp : r p < k2 := hin.1
            have hy := hin.2
            rw [← HAM.out] at hy lP
            generalize (depL ⟨3, os⟩ r2 k2).getD (r p) 0 = y at dR hy
            generalize r p = rp at nP dR hrp
            have hrp' : (rp : Int) < k2 := by omega
            generalize os.getD p 0 = z at mP lP
            generalize os.getD 1 0 = z1 at m1 lP
            clear hin hop
            by_cases h4 : p = 4
            · subst h4
              cases a with
              | true =>
                rw [if_pos ⟨rfl, rfl⟩] at lP
                have ty : decide (0 < y) = true := hy
                clear hy
                go_wp2_with fail
                go_roundw
                case rel => exact ⟨5, by omega, by go_num, hI⟩
                case measure => simp [intOf]
              | false =>
                rw [if_neg (by simp)] at lP
                have ty : decide (0 < y) = false := hy
                clear hy
                go_wp2_with fail
                go_roundw
                case rel => exact ⟨5, by omega, by go_num, hI⟩
                case measure => simp [intOf]
            · rw [if_neg (fun e => h4 e.1)] at lP
              have ty : decide (0 < y) = false := by rw [decide_eq_false h4] at hy; exact hy
              have t4 : ((p : Int) == 4) = false := by rw [beq_eq_false_iff_ne]; omega
              clear hy
              go_wp2_with fail
              go_roundw
              case rel => exact ⟨p + 1, by omega, by go_num, hI⟩
              case measure => simp [intOf]; omega
          · have HIN : Hid (p = 9) := Lib.hid (by omega)
            have hlt' : ¬ (p : Int) < 9 := by omega
            have HBA : Hid (Below w.heap.size w wr) := Lib.hid (HMF.out.b.trans (hI.out.mono HMF.out.b.size))
            have HG2 := Lib.hid (RS.on HGR.out hI.out)
            clear HDP HOP HN HD HLR HMF HRK HOS HGR hI
            cases a with
            | true =>
              have hG : G = [4] := by rw [HGE.out, ← HAM.out]; rfl
              subst hG
              have CE := Lib.hid (sequal_any (l := [4]) (w := wr.alloc (.cells #[.int .i64 4] 3)) (v := .slice ga 1 gc) (u := .slice (some ⟨wr.heap.size, 0, none⟩) 1 1) (by simp) (RS.on HG2.out ((Below.refl _ wr).alloc (Nat.le_refl _) _)) (RS.of_owns (one_owned wr 4)))
              go_wp2_with fail
              refine CE.out.mono ?_
              rintro e wy ⟨rfl, hb⟩
              replace HBA := Lib.hid ((HBA.out.alloc HBA.out.size _).trans (hb.mono (by have := HBA.out.size; simp; omega)))
              clear hb CE
              go_wp2_with fail
              refine (awake13_any _).mono ?_
              rintro e wz ⟨rfl, hb⟩
              have HBZ := Lib.hid (HBA.out.trans (hb.mono HBA.out.size))
              clear hb
              go_wp2
              go_ret
              exact ⟨rfl, HBZ.out⟩
            | false =>
              have hG : G = [] := by rw [HGE.out, ← HAM.out]; rfl
              subst hG
              have CE := Lib.hid (sequal_ne (n := 0) (m := 1) (a := ga) (c := gc) (b := some ⟨wr.heap.size, 0, none⟩) (c2 := 1) (w := wr.alloc (.cells #[.int .i64 4] 3)) (by omega))
              go_wp2_with fail
              refine CE.out.mono ?_
              rintro e wy ⟨rfl, hb⟩
              replace HBA := Lib.hid ((HBA.out.alloc HBA.out.size _).trans (hb.mono (by have := HBA.out.size; simp; omega)))
              clear hb CE
              go_wp2_with fail
              refine (awake13_any _).mono ?_
              rintro e wz ⟨rfl, hb⟩
              have HBZ := Lib.hid (HBA.out.trans (hb.mono HBA.out.size))
              clear hb
              go_wp2
              go_ret
              exact ⟨rfl, HBZ.out⟩
end Go.Proofs.Ytiacgaplhndlnaa
