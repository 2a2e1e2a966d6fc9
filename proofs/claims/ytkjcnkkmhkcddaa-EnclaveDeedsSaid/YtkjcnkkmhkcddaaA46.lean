/-
  Parts of the proof, in the order in which they build: EwT, EwU, EwV.
-/
import Derived.Deep.CutRange
import Derived.Test.YtkjcnkkmhkcddaaA45
import Derived.Test.YtkjcnkkmhkcddaaA15
set_option linter.unusedVariables false
set_option linter.unusedSimpArgs false
/-
  The reference's regions: the contract of its function Regions.
-/
namespace Go.Proofs.Ytkjcnkkmhkcddaa
open Go.RowKit Go.Shelf
open Lim

attribute [local go_sem] Oper.semAt_some

/-- what the reference's Regions answers -/
def RRegAns (wd : Int) (os : List Int) (w : World) (e : Ending) (w' : World) : Prop :=
 Below w.heap.size w w' ∧ ((errE wd os ≠ 0 ∧ e = .returned (.tuple #[.slice none 0 0, .int .i64 (errE wd os)])) ∨
  (errE wd os = 0 ∧ ∃ (v : Value) (r : Nat → Nat) (k : Nat), e = .returned (.tuple #[v, .int .i64 0]) ∧ IsReg ⟨wd.toNat, os⟩ r ∧ IsMany ⟨wd.toNat, os⟩ r k ∧ RS w'.heap.size w' v os.length (ints (regL r os.length))))
theorem errE_ok {wd : Int} {os : List Int} (he : errE wd os = 0) : Mp.Ok ⟨wd.toNat, os⟩ ∧ wd = (wd.toNat : Int) := countB_ok (by
 unfold errE at he; cases hc : countB wd os.length with
 | true => rfl
 | false => rw [hc] at he; cases he)
theorem RowC.rs {W : World} {g n : Nat} {R : Nat → Int} (h : RowC W g n R) : RS W.heap.size W (.slice (some ⟨g, 0, none⟩) n n) n (ints ((List.range n).map R)) := by
 refine ⟨_, _, rfl, fun _ => ⟨g, 0, rfl, h.lt, fun j u hj => ?_⟩⟩
 have hjn : j < n := by have := (List.getElem?_eq_some_iff.1 hj).1; simpa [ints] using this
 unfold ints at hj
 rw [List.getElem?_map, List.getElem?_map, List.getElem?_range hjn] at hj
 rw [Nat.zero_add, h.c j hjn]; exact hj
theorem RowC.congr {W : World} {g n : Nat} {R R' : Nat → Int} (h : RowC W g n R) (e : ∀ j, j < n → R j = R' j) : RowC W g n R' := ⟨fun j hj => by rw [← e j hj]; exact h.c j hj, h.f, h.o⟩
/-- a row of zeros that is laid anew -/
theorem RowC.made (w : World) (n : Nat) : RowC (w.alloc (.cells (Array.replicate n (.int .i64 0)) 3)) w.heap.size n (fun _ => 0) :=
 ⟨fun j hj => by rw [World.cell?_alloc_new, Array.getElem?_replicate, if_pos hj], fun j hj => World.frozen?_alloc_new .., ⟨_, heap_alloc_new _ _, by simp⟩⟩
/-- the map in block q and a row in block g -/
structure RrM (w : World) (q g n wd : Nat) (oa : Option Addr) (oc : Nat) (R : Nat → Int) (W : World) : Prop where
 be : Below w.heap.size w W
 c0 : W.cell? ⟨q, 0, none⟩ = some (.int .i64 wd)
 c1 : W.cell? ⟨q, 1, none⟩ = some (.slice oa n oc)
 r : RowC W g n R
 lt : w.heap.size ≤ q ∧ w.heap.size ≤ g ∧ q ≠ g
section
variable {w W W' : World} {q g n wd : Nat} {oa : Option Addr} {oc : Nat} {R : Nat → Int}
theorem RrM.on (h : RrM w q g n wd oa oc R W) (hb : Below W.heap.size W W') : RrM w q g n wd oa oc R W' := ⟨h.be.trans (hb.mono h.be.size), hb.on h.c0, hb.on h.c1, h.r.grow hb, h.lt⟩
theorem RrM.put (h : RrM w q g n wd oa oc R W) {k : Nat} (hk : k < n) (v : Int) : RrM w q g n wd oa oc (upd R k v) (W.setCell ⟨g, k, none⟩ (.int .i64 v)) :=
 have hs := Sep.set W g k (.int .i64 v)
 ⟨h.be.setCell (p := ⟨g, k, none⟩) h.lt.2.1 _, hs.cell h.c0 h.lt.2.2, hs.cell h.c1 h.lt.2.2, h.r.put hk v, h.lt⟩
theorem RrM.other (h : RrM w q g n wd oa oc R W) {g2 k : Nat} (v : Value) (h2 : w.heap.size ≤ g2) (hq : q ≠ g2) (hg : g ≠ g2) : RrM w q g n wd oa oc R (W.setCell ⟨g2, k, none⟩ v) :=
 have hs := Sep.set W g2 k v
 ⟨h.be.setCell (p := ⟨g2, k, none⟩) h2 _, hs.cell h.c0 hq, hs.cell h.c1 hq, h.r.sep hs hg, h.lt⟩
theorem RrM.congr (h : RrM w q g n wd oa oc R W) {R' : Nat → Int} (e : ∀ j, j < n → R j = R' j) : RrM w q g n wd oa oc R' W := ⟨h.be, h.c0, h.c1, h.r.congr e, h.lt⟩
end
/-- the sum of the first n numbers -/
def sumF (f : Nat → Nat) : Nat → Nat
 | 0 => 0
 | n + 1 => sumF f n + f n
theorem sumF_upd {f : Nat → Nat} {k v : Nat} : ∀ n, (n ≤ k → sumF (fun x => if x = k then v else f x) n = sumF f n) ∧ (k < n → sumF (fun x => if x = k then v else f x) n + f k = sumF f n + v)
 | 0 => ⟨fun _ => rfl, fun h => by omega⟩
 | n + 1 => by
  obtain ⟨h1, h2⟩ := sumF_upd (f := f) (k := k) (v := v) n
  refine ⟨fun h => ?_, fun h => ?_⟩
  ·rw [sumF, sumF, h1 (by omega), if_neg (by omega)]
  ·rw [sumF, sumF]
   by_cases e : n = k
   ·subst e; rw [h1 (Nat.le_refl _), if_pos rfl]; omega
   ·rw [if_neg e]; have := h2 (by omega); omega
/-- .. as memory has them -/
def cellN : Option Value → Nat
 | some (.int _ x) => x.toNat
 | _ => 0
def sumC (W : World) (g : Nat) : Nat → Nat
 | 0 => 0
 | n + 1 => sumC W g n + cellN (W.cell? ⟨g, n, none⟩)
theorem RowC.sum {W : World} {g n : Nat} {f : Nat → Nat} (h : RowC W g n (fun j => (f j : Int))) : ∀ t, t ≤ n → sumC W g t = sumF f t
 | 0, _ => rfl
 | t + 1, ht => by rw [sumC, sumF, h.sum t (by omega), h.c t (by omega)]; rfl
def flagN : Value → Nat
 | .bool true => 1
 | _ => 0
/-- while a pass looks at pair (a, b) -/
def PassR (m : Mp) (f0 f : Nat → Nat) (z : Bool) (a b : Nat) : Prop :=
 (z = false → f = f0 ∧ ∀ x y, (x < a ∨ x = a ∧ y < b) → x < m.n → y < m.n → nb m x y → m.own x = m.own y → ¬ f y < f x) ∧ (z = true → sumF f m.n < sumF f0 m.n)
theorem PassR.skip {m : Mp} {f0 f : Nat → Nat} {z : Bool} {a b : Nat} (h : PassR m f0 f z a b) (hs : nb m a b → m.own a = m.own b → ¬ f b < f a) : PassR m f0 f z a (b + 1) :=
 ⟨fun hz => ⟨(h.1 hz).1, fun x y hxy hx hy hn ho => by
  by_cases e : x = a ∧ y = b
  ·rw [e.1, e.2] at hn ho ⊢; exact hs hn ho
  ·exact (h.1 hz).2 x y (by omega) hx hy hn ho⟩, h.2⟩
theorem PassR.set {m : Mp} {f0 f : Nat → Nat} {z : Bool} {a b : Nat} (h : PassR m f0 f z a b) (ha : a < m.n) (hlt : f b < f a) : PassR m f0 (fun x => if x = a then f b else f x) true a (b + 1) := by
 refine ⟨fun e => (by cases e), fun _ => ?_⟩
 have h1 := (sumF_upd (f := f) (k := a) (v := f b) m.n).2 ha
 have h2 : sumF f m.n ≤ sumF f0 m.n := by
  cases z with
  | false => rw [(h.1 rfl).1]; exact Nat.le_refl _
  | true => exact Nat.le_of_lt (h.2 rfl)
 omega
theorem PassR.row {m : Mp} {f0 f : Nat → Nat} {z : Bool} {a : Nat} (h : PassR m f0 f z a m.n) : PassR m f0 f z (a + 1) 0 :=
 ⟨fun hz => ⟨(h.1 hz).1, fun x y hxy hx hy => (h.1 hz).2 x y (by omega) hx hy⟩, h.2⟩
theorem PassR.start (m : Mp) (f : Nat → Nat) : PassR m f f false 0 0 := ⟨fun _ => ⟨rfl, fun x y h => by omega⟩, fun e => by cases e⟩
set_option maxRecDepth 20000 in
set_option maxHeartbeats 4000000 in
theorem rRegions_any {B : Nat} {wd : Int} {ov : Value} {os : List Int} {w : World} (hl : os.length ≤ 100000) (hB : B ≤ w.heap.size) (hv : RS B w ov os.length (ints os)) :
  Calls Try.prog 29 #[.agg #[.int .i64 wd, ov]] w fun e w' => RRegAns wd os w e w' := by
 have hb := (Below.refl w.heap.size w).alloc (Nat.le_refl _) (.cells #[.int .i64 wd, ov] 28)
 have HC := Lib.hid (rCheck_any (wd := wd) (w := w.alloc (.cells #[.int .i64 wd, ov] 28)) hl (Nat.le_trans hB hb.size) (hv.below (hb.mono hB)))
 have HV := Lib.hid (And.intro hB hv)
 obtain ⟨oa, oc, rfl, -⟩ := hv
 have f0 : (w.alloc (.cells #[.int .i64 wd, .slice oa os.length oc] 28)).cell? ⟨w.heap.size, 0, none⟩ = some (.int .i64 wd) := by simp [go_sem]
 have f1 : (w.alloc (.cells #[.int .i64 wd, .slice oa os.length oc] 28)).cell? ⟨w.heap.size, 1, none⟩ = some (.slice oa os.length oc) := by simp [go_sem]
 have HB := Lib.hid hb
 clear hb hB hl
 go_enter Try.func29, Try.ntmps29
 go_wp2_with fail
 generalize w.alloc (.cells #[.int .i64 wd, .slice oa os.length oc] 28) = w1 at HB HC f0 f1 ⊢
 refine HC.out.mono ?_
 rintro e w2 ⟨rfl, hb⟩
 replace f0 := hb.on f0
 replace f1 := hb.on f1
 have HB2 := Lib.hid (HB.out.trans (hb.mono HB.out.size))
 clear hb HB HC w1
 by_cases he : errE wd os = 0
 ·have g1 : (errE wd os != 0) = false := by simp [he]
  have HE := Lib.hid he
  have HOK := Lib.hid (errE_ok he)
  clear he
  obtain ⟨m, hm⟩ : ∃ m : Mp, m = ⟨wd.toNat, os⟩ := ⟨_, rfl⟩
  have HFIN : Hid (∀ (v : Value) (r : Nat → Nat) (k : Nat) (W : World), Below w.heap.size w W → IsReg m r → IsMany m r k → RS W.heap.size W v m.n (ints (regL r m.n)) → RRegAns wd os w (.returned (.tuple #[v, .int .i64 0])) W) := Lib.hid (fun v r k W h1 h2 h3 h4 => by
   rw [hm] at h2 h3 h4
   exact ⟨h1, .inr ⟨HE.out, v, r, k, rfl, h2, h3, h4⟩⟩)
  have HM : Hid m.Ok := Lib.hid (by rw [hm]; exact HOK.out.1)
  have hwd : wd = (m.wd : Int) := by rw [hm]; exact HOK.out.2
  have hos : os = m.os := by rw [hm]
  clear hm HOK
  obtain ⟨er, her⟩ : ∃ er, er = errE wd os := ⟨_, rfl⟩
  rw [← her] at g1 ⊢
  clear her HE
  subst hwd hos
  have hnn : m.os.length = m.n := rfl
  rw [hnn] at f1 HV ⊢
  have hn100 : m.n ≤ 100 := HM.out.n1
  have HQ : Hid (w.heap.size < w2.heap.size) := Lib.hid (World.block_lt_of_cell? _ _ f0)
  obtain ⟨q, hq⟩ : ∃ q, q = w.heap.size := ⟨_, rfl⟩
  have HQ2 : Hid (q = w.heap.size) := Lib.hid hq
  rw [← hq] at f0 f1 ⊢
  clear hq hnn
  obtain ⟨oa', oc', hoe, hoo⟩ := HV.out.2
  obtain ⟨ob, oo, rfl, hob, hocell⟩ := hoo (ints_ne HM.out.n0)
  cases hoe
  have HOC : Hid (∀ W, Below w.heap.size w W → ∀ p, p < m.n → W.cell? ⟨ob, oo + p, none⟩ = some (.int .i64 (m.own p))) := Lib.hid fun W hW p hp => by
   have h := hocell p _ (ints_at' m.os p hp)
   have h2 := cell_below (hW.mono HV.out.1) h hob
   unfold Mp.own
   rw [List.getD_eq_getElem?_getD]; exact h2
  clear hocell hoo hob
  obtain ⟨i0, hi, hz0, hz1, hz2⟩ := info_parts Try.infoInt
  have HI := Lib.hid (And.intro hi (And.intro hz0 (And.intro hz1 hz2)))
  have hmk := made_ints (w := w2) ⟨hi, hz0, hz1, hz2⟩ (n := m.n) (by omega)
  have HR0 : Hid (RrM w q w2.heap.size m.n m.wd (some ⟨ob, oo, none⟩) oc (fun j => if j < 0 then (j : Int) else 0) (w2.alloc (.cells (Array.replicate m.n (.int .i64 0)) 3))) := Lib.hid (by
   have hbn : Below w2.heap.size w2 (w2.alloc (.cells (Array.replicate m.n (.int .i64 0)) 3)) := (Below.refl _ _).alloc (Nat.le_refl _) _
   have h0 := HQ.out
   have h1 := HQ2.out
   exact ⟨HB2.out.trans (hbn.mono HB2.out.size), hbn.on f0, hbn.on f1, (RowC.made w2 m.n).congr (fun j _ => by rw [if_neg (by omega)]), by omega, by omega, by omega⟩)
  clear hi hz0 hz1 hz2
  go_wp2_with fail
  generalize w2.alloc (.cells (Array.replicate m.n (.int .i64 0)) 3) = w3 at HR0 ⊢
  obtain ⟨g, hg⟩ : ∃ g, g = w2.heap.size := ⟨_, rfl⟩
  rw [← hg] at HR0 ⊢
  clear hg hmk f0 f1
  go_loopw [7] (fun v wr => ∃ p : Nat, p ≤ m.n ∧ v = .int .i64 p ∧ Hid (RrM w q g m.n m.wd (some ⟨ob, oo, none⟩) oc (fun j => if j < p then (j : Int) else 0) wr)) (fun v _ => m.n - (intOf v).toNat)
  case atStart => exact ⟨0, Nat.zero_le _, rfl, HR0⟩
  case round =>
   clear HR0
   obtain ⟨p, hp, rfl, hI⟩ := hrel
   by_cases hlt : p < m.n
   ·have hlt64 : (p : Int) < m.n := by omega
    have cp := hI.out.r.c p hlt
    have fp := hI.out.r.f p hlt
    have HN : Hid (RrM w q g m.n m.wd (some ⟨ob, oo, none⟩) oc (fun j => if j < p + 1 then (j : Int) else 0) (wr.setCell ⟨g, p, none⟩ (.int .i64 p))) := Lib.hid ((hI.out.put hlt p).congr (fun j _ => by
     unfold upd
     by_cases e : j = p
     ·subst e; rw [if_pos rfl, if_pos (by omega)]
     ·rw [if_neg e]
      show (if j < p then (j : Int) else 0) = _
      by_cases e2 : j < p
      ·rw [if_pos e2, if_pos (by omega)]
      ·rw [if_neg e2, if_neg (by omega)]))
    have hp64 : (p : Int) ≤ 100 := by omega
    clear hI
    go_wp2_with fail
    go_roundw
    case rel => exact ⟨p + 1, by omega, by go_num, HN⟩
    case measure => simp [intOf]; omega
   ·obtain rfl : p = m.n := by omega
    have HR1 : Hid (RrM w q g m.n m.wd (some ⟨ob, oo, none⟩) oc (fun j => ((j : Nat) : Int)) wr) := Lib.hid (hI.out.congr (fun j hj => by rw [if_pos hj]))
    clear hI
    go_wp2_with fail
    obtain ⟨wo, rfl⟩ : ∃ wo : World, wo = wr := ⟨_, rfl⟩
    go_loopw [8] (fun v wr => ∃ (f : Nat → Nat) (z : Bool), v = .bool z ∧ Hid (RrM w q g m.n m.wd (some ⟨ob, oo, none⟩) oc (fun j => (f j : Int)) wr ∧ FInv m f ∧ (z = false → FFix m f))) (fun v wr => sumC wr g m.n + flagN v)
    case atStart => exact ⟨fun j => j, true, rfl, Lib.hid ⟨HR1.out, FInv.begin m, fun e => by cases e⟩⟩
    case round =>
     clear HR1
     obtain ⟨f, z, rfl, hJ⟩ := hrel
     cases z with
     | false =>
      have HF := Lib.hid (hJ.out.2.2 rfl)
      have hmk := made_ints (w := wr) HI.out (n := m.n) (by omega)
      have HR2 : Hid (RrM w q g m.n m.wd (some ⟨ob, oo, none⟩) oc (fun j => (f j : Int)) (wr.alloc (.cells (Array.replicate m.n (.int .i64 0)) 3)) ∧ RowC (wr.alloc (.cells (Array.replicate m.n (.int .i64 0)) 3)) wr.heap.size m.n (fun j => if j < 0 then (num f (f j) : Int) else 0) ∧ w.heap.size ≤ wr.heap.size ∧ q < wr.heap.size ∧ g < wr.heap.size) := Lib.hid (by
       have hbn : Below wr.heap.size wr (wr.alloc (.cells (Array.replicate m.n (.int .i64 0)) 3)) := (Below.refl _ _).alloc (Nat.le_refl _) _
       exact ⟨hJ.out.1.on hbn, (RowC.made wr m.n).congr (fun j _ => by rw [if_neg (by omega)]), hJ.out.1.be.size, World.block_lt_of_cell? _ _ hJ.out.1.c0, hJ.out.1.r.lt⟩)
      have HFI := Lib.hid hJ.out.2.1
      clear hJ
      go_wp2_with fail
      generalize wr.alloc (.cells (Array.replicate m.n (.int .i64 0)) 3) = w6 at HR2 ⊢
      obtain ⟨g2, hg2⟩ : ∃ g, g = wr.heap.size := ⟨_, rfl⟩
      rw [← hg2] at HR2 ⊢
      clear hg2 hmk
      go_loopw [12, 13] (fun nv v wr => ∃ p : Nat, p ≤ m.n ∧ v = .int .i64 p ∧ nv = .int .i64 (num f p : Nat) ∧ Hid (RrM w q g m.n m.wd (some ⟨ob, oo, none⟩) oc (fun j => (f j : Int)) wr ∧ RowC wr g2 m.n (fun j => if j < p then (num f (f j) : Int) else 0) ∧ w.heap.size ≤ g2 ∧ q < g2 ∧ g < g2)) (fun _ v _ => m.n - (intOf v).toNat)
      case atStart => exact ⟨0, Nat.zero_le _, rfl, rfl, HR2⟩
      case round =>
       clear HR2
       obtain ⟨p, hp, rfl, rfl, hK⟩ := hrel
       have hp64 : (p : Int) ≤ 100 := by omega
       by_cases hlt : p < m.n
       ·have hlt64 : (p : Int) < m.n := by omega
        obtain ⟨u, hu⟩ : ∃ u, u = num f p := ⟨_, rfl⟩
        have hu64 : u ≤ 100 := by rw [hu]; exact Nat.le_trans (num_le p) (by omega)
        rw [← hu]
        obtain ⟨fp, hfp⟩ : ∃ x, x = f p := ⟨_, rfl⟩
        have ga := hK.out.1.r.c p hlt
        rw [← hfp] at ga
        have gp := hK.out.2.1.c p hlt
        have fr := hK.out.2.1.f p hlt
        have hfle : fp ≤ p := by rw [hfp]; exact (HFI.out p hlt).1
        have HFP := Lib.hid (And.intro hfp hu)
        have hset : ∀ v : Nat, v = num f (f p) → Hid (RrM w q g m.n m.wd (some ⟨ob, oo, none⟩) oc (fun j => (f j : Int)) (wr.setCell ⟨g2, p, none⟩ (.int .i64 v)) ∧ RowC (wr.setCell ⟨g2, p, none⟩ (.int .i64 v)) g2 m.n (fun j => if j < p + 1 then (num f (f j) : Int) else 0) ∧ w.heap.size ≤ g2 ∧ q < g2 ∧ g < g2) := fun v hv => Lib.hid (by
         have h := hK.out
         refine ⟨h.1.other _ h.2.2.1 (by omega) (by omega), (h.2.1.put hlt v).congr (fun j _ => ?_), h.2.2⟩
         unfold upd
         by_cases e : j = p
         ·subst e; rw [if_pos rfl, if_pos (by omega), hv]
         ·rw [if_neg e]
          show (if j < p then (num f (f j) : Int) else 0) = _
          by_cases e2 : j < p
          ·rw [if_pos e2, if_pos (by omega)]
          ·rw [if_neg e2, if_neg (by omega)])
        by_cases he : fp = p
        ·have d1 : ((fp : Int) == (p : Int)) = true := by simp [he]
         have d2 : (fp == p) = true := by simp [he]
         have HN := hset u (by rw [← hfp, he, hu])
         have HU : Hid (((num f (p + 1) : Nat) : Int) = (u : Int) + 1) := Lib.hid (by rw [num_add (by rw [← hfp]; exact he), ← hu]; rfl)
         clear hset hfp hu he hK
         go_wp2_with fail
         go_roundw
         case rel => exact ⟨p + 1, by omega, by go_num, by rw [HU.out], HN⟩
         case measure => simp [intOf]; omega
        ·have d1 : ((fp : Int) == (p : Int)) = false := by rw [beq_eq_false_iff_ne]; omega
         have d2 : (fp == p) = false := by rw [beq_eq_false_iff_ne]; omega
         have hflt : fp < p := by omega
         have hfn : fp < m.n := by omega
         have gq := hK.out.2.1.c fp hfn
         have hff : f fp = fp := by rw [hfp]; exact FFix.first HM.out HF.out HFI.out hlt
         obtain ⟨y, hy⟩ : ∃ y, y = num f fp := ⟨_, rfl⟩
         rw [if_pos hflt, hff, ← hy] at gq
         have HN := hset y (by rw [← hfp, hy])
         have HU : Hid (((num f (p + 1) : Nat) : Int) = (u : Int)) := Lib.hid (by rw [num_skip (by rw [← hfp]; exact he), ← hu])
         have hfn64 : (fp : Int) < m.n := by omega
         clear hset hfp hu he hK hy hff
         go_wp2_with fail
         go_roundw
         case rel => exact ⟨p + 1, by omega, by go_num, by rw [HU.out], HN⟩
         case measure => simp [intOf]; omega
       ·have hp' : ¬ (p : Int) < m.n := by omega
        obtain rfl : p = m.n := by omega
        go_wp2_with fail
        go_ret2
        obtain ⟨h1, h2⟩ := num_reg HM.out HF.out HFI.out
        refine HFIN.out _ _ _ _ hK.out.1.be h1 h2 ?_
        have h := hK.out.2.1.rs
        have e : (List.range m.n).map (fun j => if j < m.n then (num f (f j) : Int) else 0) = regL (fun p => num f (f p)) m.n := List.map_congr_left (fun j hj => if_pos (List.mem_range.1 hj))
        rw [e] at h
        exact h
     | true =>
      have HS0 : Hid (sumC wr g m.n = sumF f m.n) := Lib.hid (hJ.out.1.r.sum m.n (Nat.le_refl _))
      go_wp2_with fail
      obtain ⟨wp, rfl⟩ : ∃ wp : World, wp = wr := ⟨_, rfl⟩
      go_loopw [8, 9] (fun zv v wr => ∃ (a : Nat) (f' : Nat → Nat) (z : Bool), a ≤ m.n ∧ v = .int .i64 a ∧ zv = .bool z ∧ Hid (RrM w q g m.n m.wd (some ⟨ob, oo, none⟩) oc (fun j => (f' j : Int)) wr ∧ FInv m f' ∧ PassR m f f' z a 0)) (fun _ v _ => m.n - (intOf v).toNat)
      case atStart => exact ⟨0, f, false, Nat.zero_le _, rfl, rfl, Lib.hid ⟨hJ.out.1, hJ.out.2.1, PassR.start m f⟩⟩
      case round =>
       obtain ⟨a, fa, za, ha, rfl, rfl, hA⟩ := hrel
       by_cases hlta : a < m.n
       ·have hlta64 : (a : Int) < m.n := by omega
        have ha64 : (a : Int) ≤ 100 := by omega
        go_wp2_with fail
        obtain ⟨wq, rfl⟩ : ∃ wq : World, wq = wr := ⟨_, rfl⟩
        go_loopw [8, 10] (fun zv v wr => ∃ (b : Nat) (f' : Nat → Nat) (z : Bool), b ≤ m.n ∧ v = .int .i64 b ∧ zv = .bool z ∧ Hid (RrM w q g m.n m.wd (some ⟨ob, oo, none⟩) oc (fun j => (f' j : Int)) wr ∧ FInv m f' ∧ PassR m f f' z a b)) (fun _ v _ => m.n - (intOf v).toNat)
        case atStart => exact ⟨0, fa, za, Nat.zero_le _, rfl, rfl, hA⟩
        case round =>
         clear hA
         obtain ⟨b, fb, zb, hb, rfl, rfl, hP⟩ := hrel
         by_cases hltb : b < m.n
         ·have hltb64 : (b : Int) < m.n := by omega
          have hb64 : (b : Int) ≤ 100 := by omega
          obtain ⟨c0, c1⟩ := And.intro hP.out.1.c0 hP.out.1.c1
          obtain ⟨ya, hya⟩ : ∃ y, y = m.own a := ⟨_, rfl⟩
          obtain ⟨yb, hyb⟩ : ∃ y, y = m.own b := ⟨_, rfl⟩
          obtain ⟨xa, hxa⟩ : ∃ y, y = fb a := ⟨_, rfl⟩
          obtain ⟨xb, hxb⟩ : ∃ y, y = fb b := ⟨_, rfl⟩
          have oa1 := HOC.out wr hP.out.1.be a hlta
          have ob1 := HOC.out wr hP.out.1.be b hltb
          have ga := hP.out.1.r.c a hlta
          have gb := hP.out.1.r.c b hltb
          rw [← hya] at oa1
          rw [← hyb] at ob1
          rw [← hxa] at ga
          rw [← hxb] at gb
          have HY := Lib.hid (And.intro hya (And.intro hyb (And.intro hxa hxb)))
          obtain ⟨z1, hz1⟩ : ∃ z, z = nbB m a b := ⟨_, rfl⟩
          have HBE : Hid (∀ W, Calls Try.prog 64 #[.agg #[.int .i64 m.wd, .slice (some ⟨ob, oo, none⟩) m.n oc], .int .i64 a, .int .i64 b] W fun e w' => e = .returned (.bool z1) ∧ Below W.heap.size W w') := Lib.hid fun W => by
           rw [hz1]; exact rbeside_any HM.out hlta hltb
          have HZ1 : Hid (z1 = true ↔ nb m a b) := Lib.hid (by rw [hz1, nbB_iff])
          have hC : (fun W => W.cell? ⟨q, 0, none⟩ = some (.int .i64 m.wd) ∧ W.cell? ⟨q, 1, none⟩ = some (.slice (some ⟨ob, oo, none⟩) m.n oc) ∧ W.cell? ⟨ob, oo + a, none⟩ = some (.int .i64 ya) ∧ W.cell? ⟨ob, oo + b, none⟩ = some (.int .i64 yb) ∧ W.cell? ⟨g, a, none⟩ = some (.int .i64 xa) ∧ W.cell? ⟨g, b, none⟩ = some (.int .i64 xb)) wr.drew := ⟨c0, c1, oa1, ob1, ga, gb⟩
          clear hz1 hya hyb hxa hxb c0 c1 oa1 ob1 ga gb
          go_upto_region 19 with (fail)
          cases z1 with
          | false =>
           refine Lim.regC' (fun W => W.cell? ⟨q, 0, none⟩ = some (.int .i64 m.wd) ∧ W.cell? ⟨q, 1, none⟩ = some (.slice (some ⟨ob, oo, none⟩) m.n oc) ∧ W.cell? ⟨ob, oo + a, none⟩ = some (.int .i64 ya) ∧ W.cell? ⟨ob, oo + b, none⟩ = some (.int .i64 yb) ∧ W.cell? ⟨g, a, none⟩ = some (.int .i64 xa) ∧ W.cell? ⟨g, b, none⟩ = some (.int .i64 xb)) [] #[false, false, false, false, false, false, false, false, false, false, false, false, false, false, false, false, false, false, false, false, false, false, false, false, false, false, false, false] (by kernel_rfl) rfl ?_
           refine Lim.stepR 0 (fun _ => trivial) rfl (by kernel_rfl) (fun _ _ _ _ h => h) hC rfl ?_; apply Exists.intro; refine ⟨?_, ?_⟩
           ·rintro w ⟨r1, r2, r3, r4, r5, r6⟩; go_simp; try with_reducible rfl
           simp only [Act.put, List.setIfInBounds_toArray, List.set_cons_succ, List.set_cons_zero]
           refine Lim.stepR 1 (fun _ => trivial) rfl (by kernel_rfl) (fun _ _ _ _ h => h) hC rfl ?_; apply Exists.intro; refine ⟨?_, ?_⟩
           ·rintro w ⟨r1, r2, r3, r4, r5, r6⟩; go_simp; try with_reducible rfl
           simp only [Act.put, List.setIfInBounds_toArray, List.set_cons_succ, List.set_cons_zero]
           refine Lim.stepR 2 (fun _ => trivial) rfl (by kernel_rfl) (fun _ _ _ _ h => h) hC rfl ?_; apply Exists.intro; refine ⟨?_, ?_⟩
           ·rintro w ⟨r1, r2, r3, r4, r5, r6⟩; go_simp; try with_reducible rfl
           simp only [Act.put, List.setIfInBounds_toArray, List.set_cons_succ, List.set_cons_zero]
           refine Lim.stepE 3 (fun _ => trivial) rfl (by kernel_rfl) rfl (fun K hK => ?_)   -- E call
           go_simp
           refine ⟨rfl, (callsIn_wide.2 (HBE.out _)).mono ?_⟩
           rintro e w9 ⟨rfl, hb9⟩
           have HP9 := Lib.hid (hP.out.1.on ((Below.refl _ wr).drew.trans hb9))
           have hC9 : (fun W => W.cell? ⟨q, 0, none⟩ = some (.int .i64 m.wd) ∧ W.cell? ⟨q, 1, none⟩ = some (.slice (some ⟨ob, oo, none⟩) m.n oc) ∧ W.cell? ⟨ob, oo + a, none⟩ = some (.int .i64 ya) ∧ W.cell? ⟨ob, oo + b, none⟩ = some (.int .i64 yb) ∧ W.cell? ⟨g, a, none⟩ = some (.int .i64 xa) ∧ W.cell? ⟨g, b, none⟩ = some (.int .i64 xb)) w9 := ⟨hb9.on hC.1, hb9.on hC.2.1, hb9.on hC.2.2.1, hb9.on hC.2.2.2.1, hb9.on hC.2.2.2.2.1, hb9.on hC.2.2.2.2.2⟩
           refine hK _ _ hC9 ?_
           clear hb9
           simp only [Act.put, List.setIfInBounds_toArray, List.set_cons_succ, List.set_cons_zero]
           refine Lim.stepR 4 (fun _ => trivial) rfl (by kernel_rfl) (fun _ _ _ _ h => h) hC9 rfl ?_; apply Exists.intro; refine ⟨?_, ?_⟩
           ·rintro w ⟨r1, r2, r3, r4, r5, r6⟩; go_simp; try with_reducible rfl
           simp only [Act.put, List.setIfInBounds_toArray, List.set_cons_succ, List.set_cons_zero]
           refine Lim.stepS 5 (fun _ => trivial) rfl (by kernel_rfl) (fun _ _ _ _ h => h) hC9 rfl ?_
           simp only [Act.put, List.setIfInBounds_toArray, List.set_cons_succ, List.set_cons_zero]
           refine Lim.stepS 6 (fun _ => trivial) rfl (by kernel_rfl) (fun _ _ _ _ h => h) hC9 rfl ?_
           simp only [Act.put, List.setIfInBounds_toArray, List.set_cons_succ, List.set_cons_zero]
           refine Lim.stepS 7 (fun _ => trivial) rfl (by kernel_rfl) (fun _ _ _ _ h => h) hC9 rfl ?_
           simp only [Act.put, List.setIfInBounds_toArray, List.set_cons_succ, List.set_cons_zero]
           refine Lim.stepS 8 (fun _ => trivial) rfl (by kernel_rfl) (fun _ _ _ _ h => h) hC9 rfl ?_
           simp only [Act.put, List.setIfInBounds_toArray, List.set_cons_succ, List.set_cons_zero]
           refine Lim.stepS 9 (fun _ => trivial) rfl (by kernel_rfl) (fun _ _ _ _ h => h) hC9 rfl ?_
           simp only [Act.put, List.setIfInBounds_toArray, List.set_cons_succ, List.set_cons_zero]
           refine Lim.stepS 10 (fun _ => trivial) rfl (by kernel_rfl) (fun _ _ _ _ h => h) hC9 rfl ?_
           simp only [Act.put, List.setIfInBounds_toArray, List.set_cons_succ, List.set_cons_zero]
           refine Lim.stepS 11 (fun _ => trivial) rfl (by kernel_rfl) (fun _ _ _ _ h => h) hC9 rfl ?_
           simp only [Act.put, List.setIfInBounds_toArray, List.set_cons_succ, List.set_cons_zero]
           refine Lim.stepS 12 (fun _ => trivial) rfl (by kernel_rfl) (fun _ _ _ _ h => h) hC9 rfl ?_
           simp only [Act.put, List.setIfInBounds_toArray, List.set_cons_succ, List.set_cons_zero]
           refine Lim.stepS 13 (fun _ => trivial) rfl (by kernel_rfl) (fun _ _ _ _ h => h) hC9 rfl ?_
           simp only [Act.put, List.setIfInBounds_toArray, List.set_cons_succ, List.set_cons_zero]
           refine Lim.stepS 14 (fun _ => trivial) rfl (by kernel_rfl) (fun _ _ _ _ h => h) hC9 rfl ?_
           simp only [Act.put, List.setIfInBounds_toArray, List.set_cons_succ, List.set_cons_zero]
           refine Lim.stepS 15 (fun _ => trivial) rfl (by kernel_rfl) (fun _ _ _ _ h => h) hC9 rfl ?_
           simp only [Act.put, List.setIfInBounds_toArray, List.set_cons_succ, List.set_cons_zero]
           refine Lim.stepR 16 (fun _ => trivial) rfl (by kernel_rfl) (fun _ _ _ _ h => h) hC9 rfl ?_; apply Exists.intro; refine ⟨?_, ?_⟩
           ·rintro w ⟨r1, r2, r3, r4, r5, r6⟩; go_simp; try with_reducible rfl
           simp only [Act.put, List.setIfInBounds_toArray, List.set_cons_succ, List.set_cons_zero]
           refine Lim.stepR 17 (fun _ => trivial) rfl (by kernel_rfl) (fun _ _ _ _ h => h) hC9 rfl ?_; apply Exists.intro; refine ⟨?_, ?_⟩
           ·rintro w ⟨r1, r2, r3, r4, r5, r6⟩; go_simp; try with_reducible rfl
           simp only [Act.put, List.setIfInBounds_toArray, List.set_cons_succ, List.set_cons_zero]
           refine Lim.stepS 18 (fun _ => trivial) rfl (by kernel_rfl) (fun _ _ _ _ h => h) hC9 rfl ?_
           simp only [Act.put, List.setIfInBounds_toArray, List.set_cons_succ, List.set_cons_zero]
           refine Lim.stepS 19 (fun _ => trivial) rfl (by kernel_rfl) (fun _ _ _ _ h => h) hC9 rfl ?_
           simp only [Act.put, List.setIfInBounds_toArray, List.set_cons_succ, List.set_cons_zero]
           refine Lim.stepS 20 (fun _ => trivial) rfl (by kernel_rfl) (fun _ _ _ _ h => h) hC9 rfl ?_
           simp only [Act.put, List.setIfInBounds_toArray, List.set_cons_succ, List.set_cons_zero]
           refine Lim.stepS 21 (fun _ => trivial) rfl (by kernel_rfl) (fun _ _ _ _ h => h) hC9 rfl ?_
           simp only [Act.put, List.setIfInBounds_toArray, List.set_cons_succ, List.set_cons_zero]
           refine Lim.stepS 22 (fun _ => trivial) rfl (by kernel_rfl) (fun _ _ _ _ h => h) hC9 rfl ?_
           simp only [Act.put, List.setIfInBounds_toArray, List.set_cons_succ, List.set_cons_zero]
           refine Lim.stepS 23 (fun _ => trivial) rfl (by kernel_rfl) (fun _ _ _ _ h => h) hC9 rfl ?_
           simp only [Act.put, List.setIfInBounds_toArray, List.set_cons_succ, List.set_cons_zero]
           refine Lim.stepS 24 (fun _ => trivial) rfl (by kernel_rfl) (fun _ _ _ _ h => h) hC9 rfl ?_
           simp only [Act.put, List.setIfInBounds_toArray, List.set_cons_succ, List.set_cons_zero]
           refine Lim.stepS 25 (fun _ => trivial) rfl (by kernel_rfl) (fun _ _ _ _ h => h) hC9 rfl ?_
           simp only [Act.put, List.setIfInBounds_toArray, List.set_cons_succ, List.set_cons_zero]
           refine Lim.stepS 26 (fun _ => trivial) rfl (by kernel_rfl) (fun _ _ _ _ h => h) hC9 rfl ?_
           simp only [Act.put, List.setIfInBounds_toArray, List.set_cons_succ, List.set_cons_zero]
           refine Lim.stepR 27 (fun _ => trivial) rfl (by kernel_rfl) (fun _ _ _ _ h => h) hC9 rfl ?_; apply Exists.intro; refine ⟨?_, ?_⟩
           ·rintro w ⟨r1, r2, r3, r4, r5, r6⟩; go_simp; try with_reducible rfl
           simp only [Act.put, List.setIfInBounds_toArray, List.set_cons_succ, List.set_cons_zero]
           refine Lim.stepD (by kernel_rfl) ?_
           clear hC hC9
           go_wp2_with fail
           go_roundw
           case rel => exact ⟨b + 1, fb, zb, by omega, by go_num, rfl, Lib.hid ⟨HP9.out, hP.out.2.1, hP.out.2.2.skip (fun hn => by have := HZ1.out.2 hn; cases this)⟩⟩
           case measure => simp [intOf]; omega
          | true =>
          have HNB := Lib.hid (HZ1.out.1 rfl)
          by_cases ho : ya = yb
          ·have d1 : (ya == yb) = true := by simp [ho]
           have HO := Lib.hid ho
           clear ho
           by_cases hx : xb < xa
           ·have d2 : decide (xb < xa) = true := by simpa using hx
            have d2' : decide ((xb : Int) < (xa : Int)) = true := by simpa using hx
            have HX := Lib.hid hx
            clear hx
            refine Lim.regC' (fun W => W.cell? ⟨q, 0, none⟩ = some (.int .i64 m.wd) ∧ W.cell? ⟨q, 1, none⟩ = some (.slice (some ⟨ob, oo, none⟩) m.n oc) ∧ W.cell? ⟨ob, oo + a, none⟩ = some (.int .i64 ya) ∧ W.cell? ⟨ob, oo + b, none⟩ = some (.int .i64 yb) ∧ W.cell? ⟨g, a, none⟩ = some (.int .i64 xa) ∧ W.cell? ⟨g, b, none⟩ = some (.int .i64 xb)) [] #[false, false, false, false, false, false, false, false, false, false, false, false, false, false, false, false, false, false, false, false, false, false, false, false, false, false, false, false] (by kernel_rfl) rfl ?_
            refine Lim.stepR 0 (fun _ => trivial) rfl (by kernel_rfl) (fun _ _ _ _ h => h) hC rfl ?_; apply Exists.intro; refine ⟨?_, ?_⟩
            ·rintro w ⟨r1, r2, r3, r4, r5, r6⟩; go_simp; try with_reducible rfl
            simp only [Act.put, List.setIfInBounds_toArray, List.set_cons_succ, List.set_cons_zero]
            refine Lim.stepR 1 (fun _ => trivial) rfl (by kernel_rfl) (fun _ _ _ _ h => h) hC rfl ?_; apply Exists.intro; refine ⟨?_, ?_⟩
            ·rintro w ⟨r1, r2, r3, r4, r5, r6⟩; go_simp; try with_reducible rfl
            simp only [Act.put, List.setIfInBounds_toArray, List.set_cons_succ, List.set_cons_zero]
            refine Lim.stepR 2 (fun _ => trivial) rfl (by kernel_rfl) (fun _ _ _ _ h => h) hC rfl ?_; apply Exists.intro; refine ⟨?_, ?_⟩
            ·rintro w ⟨r1, r2, r3, r4, r5, r6⟩; go_simp; try with_reducible rfl
            simp only [Act.put, List.setIfInBounds_toArray, List.set_cons_succ, List.set_cons_zero]
            refine Lim.stepE 3 (fun _ => trivial) rfl (by kernel_rfl) rfl (fun K hK => ?_)   -- E call
            go_simp
            refine ⟨rfl, (callsIn_wide.2 (HBE.out _)).mono ?_⟩
            rintro e w9 ⟨rfl, hb9⟩
            have HP9 := Lib.hid (hP.out.1.on ((Below.refl _ wr).drew.trans hb9))
            have hC9 : (fun W => W.cell? ⟨q, 0, none⟩ = some (.int .i64 m.wd) ∧ W.cell? ⟨q, 1, none⟩ = some (.slice (some ⟨ob, oo, none⟩) m.n oc) ∧ W.cell? ⟨ob, oo + a, none⟩ = some (.int .i64 ya) ∧ W.cell? ⟨ob, oo + b, none⟩ = some (.int .i64 yb) ∧ W.cell? ⟨g, a, none⟩ = some (.int .i64 xa) ∧ W.cell? ⟨g, b, none⟩ = some (.int .i64 xb)) w9 := ⟨hb9.on hC.1, hb9.on hC.2.1, hb9.on hC.2.2.1, hb9.on hC.2.2.2.1, hb9.on hC.2.2.2.2.1, hb9.on hC.2.2.2.2.2⟩
            refine hK _ _ hC9 ?_
            clear hb9
            simp only [Act.put, List.setIfInBounds_toArray, List.set_cons_succ, List.set_cons_zero]
            refine Lim.stepR 4 (fun _ => trivial) rfl (by kernel_rfl) (fun _ _ _ _ h => h) hC9 rfl ?_; apply Exists.intro; refine ⟨?_, ?_⟩
            ·rintro w ⟨r1, r2, r3, r4, r5, r6⟩; go_simp; try with_reducible rfl
            simp only [Act.put, List.setIfInBounds_toArray, List.set_cons_succ, List.set_cons_zero]
            refine Lim.stepR 5 (fun _ => trivial) rfl (by kernel_rfl) (fun _ _ _ _ h => h) hC9 rfl ?_; apply Exists.intro; refine ⟨?_, ?_⟩
            ·rintro w ⟨r1, r2, r3, r4, r5, r6⟩; go_simp; try with_reducible rfl
            simp only [Act.put, List.setIfInBounds_toArray, List.set_cons_succ, List.set_cons_zero]
            refine Lim.stepR 6 (fun _ => trivial) rfl (by kernel_rfl) (fun _ _ _ _ h => h) hC9 rfl ?_; apply Exists.intro; refine ⟨?_, ?_⟩
            ·rintro w ⟨r1, r2, r3, r4, r5, r6⟩; go_simp; try with_reducible rfl
            simp only [Act.put, List.setIfInBounds_toArray, List.set_cons_succ, List.set_cons_zero]
            refine Lim.stepR 7 (fun _ => trivial) rfl (by kernel_rfl) (fun _ _ _ _ h => h) hC9 rfl ?_; apply Exists.intro; refine ⟨?_, ?_⟩
            ·rintro w ⟨r1, r2, r3, r4, r5, r6⟩; go_simp; try with_reducible rfl
            simp only [Act.put, List.setIfInBounds_toArray, List.set_cons_succ, List.set_cons_zero]
            refine Lim.stepR 8 (fun _ => trivial) rfl (by kernel_rfl) (fun _ _ _ _ h => h) hC9 rfl ?_; apply Exists.intro; refine ⟨?_, ?_⟩
            ·rintro w ⟨r1, r2, r3, r4, r5, r6⟩; go_simp; try with_reducible rfl
            simp only [Act.put, List.setIfInBounds_toArray, List.set_cons_succ, List.set_cons_zero]
            refine Lim.stepR 9 (fun _ => trivial) rfl (by kernel_rfl) (fun _ _ _ _ h => h) hC9 rfl ?_; apply Exists.intro; refine ⟨?_, ?_⟩
            ·rintro w ⟨r1, r2, r3, r4, r5, r6⟩; go_simp; try with_reducible rfl
            simp only [Act.put, List.setIfInBounds_toArray, List.set_cons_succ, List.set_cons_zero]
            refine Lim.stepR 10 (fun _ => trivial) rfl (by kernel_rfl) (fun _ _ _ _ h => h) hC9 rfl ?_; apply Exists.intro; refine ⟨?_, ?_⟩
            ·rintro w ⟨r1, r2, r3, r4, r5, r6⟩; go_simp; try with_reducible rfl
            simp only [Act.put, List.setIfInBounds_toArray, List.set_cons_succ, List.set_cons_zero]
            refine Lim.stepR 11 (fun _ => trivial) rfl (by kernel_rfl) (fun _ _ _ _ h => h) hC9 rfl ?_; apply Exists.intro; refine ⟨?_, ?_⟩
            ·rintro w ⟨r1, r2, r3, r4, r5, r6⟩; go_simp; try with_reducible rfl
            simp only [Act.put, List.setIfInBounds_toArray, List.set_cons_succ, List.set_cons_zero]
            refine Lim.stepR 12 (fun _ => trivial) rfl (by kernel_rfl) (fun _ _ _ _ h => h) hC9 rfl ?_; apply Exists.intro; refine ⟨?_, ?_⟩
            ·rintro w ⟨r1, r2, r3, r4, r5, r6⟩; go_simp; try with_reducible rfl
            simp only [Act.put, List.setIfInBounds_toArray, List.set_cons_succ, List.set_cons_zero]
            refine Lim.stepR 13 (fun _ => trivial) rfl (by kernel_rfl) (fun _ _ _ _ h => h) hC9 rfl ?_; apply Exists.intro; refine ⟨?_, ?_⟩
            ·rintro w ⟨r1, r2, r3, r4, r5, r6⟩; go_simp; try with_reducible rfl
            simp only [Act.put, List.setIfInBounds_toArray, List.set_cons_succ, List.set_cons_zero]
            refine Lim.stepR 14 (fun _ => trivial) rfl (by kernel_rfl) (fun _ _ _ _ h => h) hC9 rfl ?_; apply Exists.intro; refine ⟨?_, ?_⟩
            ·rintro w ⟨r1, r2, r3, r4, r5, r6⟩; go_simp; try with_reducible rfl
            simp only [Act.put, List.setIfInBounds_toArray, List.set_cons_succ, List.set_cons_zero]
            refine Lim.stepR 15 (fun _ => trivial) rfl (by kernel_rfl) (fun _ _ _ _ h => h) hC9 rfl ?_; apply Exists.intro; refine ⟨?_, ?_⟩
            ·rintro w ⟨r1, r2, r3, r4, r5, r6⟩; go_simp; try with_reducible rfl
            simp only [Act.put, List.setIfInBounds_toArray, List.set_cons_succ, List.set_cons_zero]
            refine Lim.stepR 16 (fun _ => trivial) rfl (by kernel_rfl) (fun _ _ _ _ h => h) hC9 rfl ?_; apply Exists.intro; refine ⟨?_, ?_⟩
            ·rintro w ⟨r1, r2, r3, r4, r5, r6⟩; go_simp; try with_reducible rfl
            simp only [Act.put, List.setIfInBounds_toArray, List.set_cons_succ, List.set_cons_zero]
            refine Lim.stepR 17 (fun _ => trivial) rfl (by kernel_rfl) (fun _ _ _ _ h => h) hC9 rfl ?_; apply Exists.intro; refine ⟨?_, ?_⟩
            ·rintro w ⟨r1, r2, r3, r4, r5, r6⟩; go_simp; try with_reducible rfl
            simp only [Act.put, List.setIfInBounds_toArray, List.set_cons_succ, List.set_cons_zero]
            refine Lim.stepR 18 (fun _ => trivial) rfl (by kernel_rfl) (fun _ _ _ _ h => h) hC9 rfl ?_; apply Exists.intro; refine ⟨?_, ?_⟩
            ·rintro w ⟨r1, r2, r3, r4, r5, r6⟩; go_simp; try with_reducible rfl
            simp only [Act.put, List.setIfInBounds_toArray, List.set_cons_succ, List.set_cons_zero]
            refine Lim.stepR 19 (fun _ => trivial) rfl (by kernel_rfl) (fun _ _ _ _ h => h) hC9 rfl ?_; apply Exists.intro; refine ⟨?_, ?_⟩
            ·rintro w ⟨r1, r2, r3, r4, r5, r6⟩; go_simp; try with_reducible rfl
            simp only [Act.put, List.setIfInBounds_toArray, List.set_cons_succ, List.set_cons_zero]
            refine Lim.stepR 20 (fun _ => trivial) rfl (by kernel_rfl) (fun _ _ _ _ h => h) hC9 rfl ?_; apply Exists.intro; refine ⟨?_, ?_⟩
            ·rintro w ⟨r1, r2, r3, r4, r5, r6⟩; go_simp; try with_reducible rfl
            simp only [Act.put, List.setIfInBounds_toArray, List.set_cons_succ, List.set_cons_zero]
            refine Lim.stepR 21 (fun _ => trivial) rfl (by kernel_rfl) (fun _ _ _ _ h => h) hC9 rfl ?_; apply Exists.intro; refine ⟨?_, ?_⟩
            ·rintro w ⟨r1, r2, r3, r4, r5, r6⟩; go_simp; try with_reducible rfl
            simp only [Act.put, List.setIfInBounds_toArray, List.set_cons_succ, List.set_cons_zero]
            refine Lim.stepR 22 (fun _ => trivial) rfl (by kernel_rfl) (fun _ _ _ _ h => h) hC9 rfl ?_; apply Exists.intro; refine ⟨?_, ?_⟩
            ·rintro w ⟨r1, r2, r3, r4, r5, r6⟩; go_simp; try with_reducible rfl
            simp only [Act.put, List.setIfInBounds_toArray, List.set_cons_succ, List.set_cons_zero]
            refine Lim.stepR 23 (fun _ => trivial) rfl (by kernel_rfl) (fun _ _ _ _ h => h) hC9 rfl ?_; apply Exists.intro; refine ⟨?_, ?_⟩
            ·rintro w ⟨r1, r2, r3, r4, r5, r6⟩; go_simp; try with_reducible rfl
            simp only [Act.put, List.setIfInBounds_toArray, List.set_cons_succ, List.set_cons_zero]
            refine Lim.stepR 24 (fun _ => trivial) rfl (by kernel_rfl) (fun _ _ _ _ h => h) hC9 rfl ?_; apply Exists.intro; refine ⟨?_, ?_⟩
            ·rintro w ⟨r1, r2, r3, r4, r5, r6⟩; go_simp; try with_reducible rfl
            simp only [Act.put, List.setIfInBounds_toArray, List.set_cons_succ, List.set_cons_zero]
            refine Lim.stepR 25 (fun _ => trivial) rfl (by kernel_rfl) (fun _ _ _ _ h => h) hC9 rfl ?_; apply Exists.intro; refine ⟨?_, ?_⟩
            ·rintro w ⟨r1, r2, r3, r4, r5, r6⟩; go_simp; try with_reducible rfl
            simp only [Act.put, List.setIfInBounds_toArray, List.set_cons_succ, List.set_cons_zero]
            refine Lim.stepR 26 (fun _ => trivial) rfl (by kernel_rfl) (fun _ _ _ _ h => h) hC9 rfl ?_; apply Exists.intro; refine ⟨?_, ?_⟩
            ·rintro w ⟨r1, r2, r3, r4, r5, r6⟩; go_simp; try with_reducible rfl
            simp only [Act.put, List.setIfInBounds_toArray, List.set_cons_succ, List.set_cons_zero]
            refine Lim.stepR 27 (fun _ => trivial) rfl (by kernel_rfl) (fun _ _ _ _ h => h) hC9 rfl ?_; apply Exists.intro; refine ⟨?_, ?_⟩
            ·rintro w ⟨r1, r2, r3, r4, r5, r6⟩; go_simp; try with_reducible rfl
            simp only [Act.put, List.setIfInBounds_toArray, List.set_cons_succ, List.set_cons_zero]
            refine Lim.stepD (by kernel_rfl) ?_
            obtain ⟨-, -, -, -, ga, gb⟩ := hC9
            have fra := HP9.out.r.f a hlta
            clear hC d1 d2 d2'
            have HN : Hid (RrM w q g m.n m.wd (some ⟨ob, oo, none⟩) oc (fun j => (((if j = a then fb b else fb j) : Nat) : Int)) (w9.setCell ⟨g, a, none⟩ (.int .i64 xb))) := Lib.hid ((HP9.out.put hlta xb).congr (fun j _ => by
             unfold upd
             by_cases e : j = a
             ·rw [if_pos e, if_pos e, HY.out.2.2.2]
             ·rw [if_neg e, if_neg e]))
            go_wp2_with fail
            go_roundw
            case rel =>
             have hlt := HX.out
             rw [HY.out.2.2.1, HY.out.2.2.2] at hlt
             exact ⟨b + 1, _, true, by omega, by go_num, rfl, Lib.hid ⟨HN.out, hP.out.2.1.take hlta hltb HNB.out (by rw [← HY.out.1, ← HY.out.2.1]; exact HO.out) hlt, hP.out.2.2.set hlta hlt⟩⟩
            case measure => simp [intOf]; omega
           ·have d2 : decide (xb < xa) = false := by simpa using hx
            have d2' : decide ((xb : Int) < (xa : Int)) = false := by simpa using hx
            have HX := Lib.hid hx
            clear hx
            refine Lim.regC' (fun W => W.cell? ⟨q, 0, none⟩ = some (.int .i64 m.wd) ∧ W.cell? ⟨q, 1, none⟩ = some (.slice (some ⟨ob, oo, none⟩) m.n oc) ∧ W.cell? ⟨ob, oo + a, none⟩ = some (.int .i64 ya) ∧ W.cell? ⟨ob, oo + b, none⟩ = some (.int .i64 yb) ∧ W.cell? ⟨g, a, none⟩ = some (.int .i64 xa) ∧ W.cell? ⟨g, b, none⟩ = some (.int .i64 xb)) [] #[false, false, false, false, false, false, false, false, false, false, false, false, false, false, false, false, false, false, false, false, false, false, false, false, false, false, false, false] (by kernel_rfl) rfl ?_
            refine Lim.stepR 0 (fun _ => trivial) rfl (by kernel_rfl) (fun _ _ _ _ h => h) hC rfl ?_; apply Exists.intro; refine ⟨?_, ?_⟩
            ·rintro w ⟨r1, r2, r3, r4, r5, r6⟩; go_simp; try with_reducible rfl
            simp only [Act.put, List.setIfInBounds_toArray, List.set_cons_succ, List.set_cons_zero]
            refine Lim.stepR 1 (fun _ => trivial) rfl (by kernel_rfl) (fun _ _ _ _ h => h) hC rfl ?_; apply Exists.intro; refine ⟨?_, ?_⟩
            ·rintro w ⟨r1, r2, r3, r4, r5, r6⟩; go_simp; try with_reducible rfl
            simp only [Act.put, List.setIfInBounds_toArray, List.set_cons_succ, List.set_cons_zero]
            refine Lim.stepR 2 (fun _ => trivial) rfl (by kernel_rfl) (fun _ _ _ _ h => h) hC rfl ?_; apply Exists.intro; refine ⟨?_, ?_⟩
            ·rintro w ⟨r1, r2, r3, r4, r5, r6⟩; go_simp; try with_reducible rfl
            simp only [Act.put, List.setIfInBounds_toArray, List.set_cons_succ, List.set_cons_zero]
            refine Lim.stepE 3 (fun _ => trivial) rfl (by kernel_rfl) rfl (fun K hK => ?_)   -- E call
            go_simp
            refine ⟨rfl, (callsIn_wide.2 (HBE.out _)).mono ?_⟩
            rintro e w9 ⟨rfl, hb9⟩
            have HP9 := Lib.hid (hP.out.1.on ((Below.refl _ wr).drew.trans hb9))
            have hC9 : (fun W => W.cell? ⟨q, 0, none⟩ = some (.int .i64 m.wd) ∧ W.cell? ⟨q, 1, none⟩ = some (.slice (some ⟨ob, oo, none⟩) m.n oc) ∧ W.cell? ⟨ob, oo + a, none⟩ = some (.int .i64 ya) ∧ W.cell? ⟨ob, oo + b, none⟩ = some (.int .i64 yb) ∧ W.cell? ⟨g, a, none⟩ = some (.int .i64 xa) ∧ W.cell? ⟨g, b, none⟩ = some (.int .i64 xb)) w9 := ⟨hb9.on hC.1, hb9.on hC.2.1, hb9.on hC.2.2.1, hb9.on hC.2.2.2.1, hb9.on hC.2.2.2.2.1, hb9.on hC.2.2.2.2.2⟩
            refine hK _ _ hC9 ?_
            clear hb9
            simp only [Act.put, List.setIfInBounds_toArray, List.set_cons_succ, List.set_cons_zero]
            refine Lim.stepR 4 (fun _ => trivial) rfl (by kernel_rfl) (fun _ _ _ _ h => h) hC9 rfl ?_; apply Exists.intro; refine ⟨?_, ?_⟩
            ·rintro w ⟨r1, r2, r3, r4, r5, r6⟩; go_simp; try with_reducible rfl
            simp only [Act.put, List.setIfInBounds_toArray, List.set_cons_succ, List.set_cons_zero]
            refine Lim.stepR 5 (fun _ => trivial) rfl (by kernel_rfl) (fun _ _ _ _ h => h) hC9 rfl ?_; apply Exists.intro; refine ⟨?_, ?_⟩
            ·rintro w ⟨r1, r2, r3, r4, r5, r6⟩; go_simp; try with_reducible rfl
            simp only [Act.put, List.setIfInBounds_toArray, List.set_cons_succ, List.set_cons_zero]
            refine Lim.stepR 6 (fun _ => trivial) rfl (by kernel_rfl) (fun _ _ _ _ h => h) hC9 rfl ?_; apply Exists.intro; refine ⟨?_, ?_⟩
            ·rintro w ⟨r1, r2, r3, r4, r5, r6⟩; go_simp; try with_reducible rfl
            simp only [Act.put, List.setIfInBounds_toArray, List.set_cons_succ, List.set_cons_zero]
            refine Lim.stepR 7 (fun _ => trivial) rfl (by kernel_rfl) (fun _ _ _ _ h => h) hC9 rfl ?_; apply Exists.intro; refine ⟨?_, ?_⟩
            ·rintro w ⟨r1, r2, r3, r4, r5, r6⟩; go_simp; try with_reducible rfl
            simp only [Act.put, List.setIfInBounds_toArray, List.set_cons_succ, List.set_cons_zero]
            refine Lim.stepR 8 (fun _ => trivial) rfl (by kernel_rfl) (fun _ _ _ _ h => h) hC9 rfl ?_; apply Exists.intro; refine ⟨?_, ?_⟩
            ·rintro w ⟨r1, r2, r3, r4, r5, r6⟩; go_simp; try with_reducible rfl
            simp only [Act.put, List.setIfInBounds_toArray, List.set_cons_succ, List.set_cons_zero]
            refine Lim.stepR 9 (fun _ => trivial) rfl (by kernel_rfl) (fun _ _ _ _ h => h) hC9 rfl ?_; apply Exists.intro; refine ⟨?_, ?_⟩
            ·rintro w ⟨r1, r2, r3, r4, r5, r6⟩; go_simp; try with_reducible rfl
            simp only [Act.put, List.setIfInBounds_toArray, List.set_cons_succ, List.set_cons_zero]
            refine Lim.stepR 10 (fun _ => trivial) rfl (by kernel_rfl) (fun _ _ _ _ h => h) hC9 rfl ?_; apply Exists.intro; refine ⟨?_, ?_⟩
            ·rintro w ⟨r1, r2, r3, r4, r5, r6⟩; go_simp; try with_reducible rfl
            simp only [Act.put, List.setIfInBounds_toArray, List.set_cons_succ, List.set_cons_zero]
            refine Lim.stepR 11 (fun _ => trivial) rfl (by kernel_rfl) (fun _ _ _ _ h => h) hC9 rfl ?_; apply Exists.intro; refine ⟨?_, ?_⟩
            ·rintro w ⟨r1, r2, r3, r4, r5, r6⟩; go_simp; try with_reducible rfl
            simp only [Act.put, List.setIfInBounds_toArray, List.set_cons_succ, List.set_cons_zero]
            refine Lim.stepR 12 (fun _ => trivial) rfl (by kernel_rfl) (fun _ _ _ _ h => h) hC9 rfl ?_; apply Exists.intro; refine ⟨?_, ?_⟩
            ·rintro w ⟨r1, r2, r3, r4, r5, r6⟩; go_simp; try with_reducible rfl
            simp only [Act.put, List.setIfInBounds_toArray, List.set_cons_succ, List.set_cons_zero]
            refine Lim.stepR 13 (fun _ => trivial) rfl (by kernel_rfl) (fun _ _ _ _ h => h) hC9 rfl ?_; apply Exists.intro; refine ⟨?_, ?_⟩
            ·rintro w ⟨r1, r2, r3, r4, r5, r6⟩; go_simp; try with_reducible rfl
            simp only [Act.put, List.setIfInBounds_toArray, List.set_cons_succ, List.set_cons_zero]
            refine Lim.stepR 14 (fun _ => trivial) rfl (by kernel_rfl) (fun _ _ _ _ h => h) hC9 rfl ?_; apply Exists.intro; refine ⟨?_, ?_⟩
            ·rintro w ⟨r1, r2, r3, r4, r5, r6⟩; go_simp; try with_reducible rfl
            simp only [Act.put, List.setIfInBounds_toArray, List.set_cons_succ, List.set_cons_zero]
            refine Lim.stepR 15 (fun _ => trivial) rfl (by kernel_rfl) (fun _ _ _ _ h => h) hC9 rfl ?_; apply Exists.intro; refine ⟨?_, ?_⟩
            ·rintro w ⟨r1, r2, r3, r4, r5, r6⟩; go_simp; try with_reducible rfl
            simp only [Act.put, List.setIfInBounds_toArray, List.set_cons_succ, List.set_cons_zero]
            refine Lim.stepR 16 (fun _ => trivial) rfl (by kernel_rfl) (fun _ _ _ _ h => h) hC9 rfl ?_; apply Exists.intro; refine ⟨?_, ?_⟩
            ·rintro w ⟨r1, r2, r3, r4, r5, r6⟩; go_simp; try with_reducible rfl
            simp only [Act.put, List.setIfInBounds_toArray, List.set_cons_succ, List.set_cons_zero]
            refine Lim.stepR 17 (fun _ => trivial) rfl (by kernel_rfl) (fun _ _ _ _ h => h) hC9 rfl ?_; apply Exists.intro; refine ⟨?_, ?_⟩
            ·rintro w ⟨r1, r2, r3, r4, r5, r6⟩; go_simp; try with_reducible rfl
            simp only [Act.put, List.setIfInBounds_toArray, List.set_cons_succ, List.set_cons_zero]
            refine Lim.stepR 18 (fun _ => trivial) rfl (by kernel_rfl) (fun _ _ _ _ h => h) hC9 rfl ?_; apply Exists.intro; refine ⟨?_, ?_⟩
            ·rintro w ⟨r1, r2, r3, r4, r5, r6⟩; go_simp; try with_reducible rfl
            simp only [Act.put, List.setIfInBounds_toArray, List.set_cons_succ, List.set_cons_zero]
            refine Lim.stepR 19 (fun _ => trivial) rfl (by kernel_rfl) (fun _ _ _ _ h => h) hC9 rfl ?_; apply Exists.intro; refine ⟨?_, ?_⟩
            ·rintro w ⟨r1, r2, r3, r4, r5, r6⟩; go_simp; try with_reducible rfl
            simp only [Act.put, List.setIfInBounds_toArray, List.set_cons_succ, List.set_cons_zero]
            refine Lim.stepR 20 (fun _ => trivial) rfl (by kernel_rfl) (fun _ _ _ _ h => h) hC9 rfl ?_; apply Exists.intro; refine ⟨?_, ?_⟩
            ·rintro w ⟨r1, r2, r3, r4, r5, r6⟩; go_simp; try with_reducible rfl
            simp only [Act.put, List.setIfInBounds_toArray, List.set_cons_succ, List.set_cons_zero]
            refine Lim.stepR 21 (fun _ => trivial) rfl (by kernel_rfl) (fun _ _ _ _ h => h) hC9 rfl ?_; apply Exists.intro; refine ⟨?_, ?_⟩
            ·rintro w ⟨r1, r2, r3, r4, r5, r6⟩; go_simp; try with_reducible rfl
            simp only [Act.put, List.setIfInBounds_toArray, List.set_cons_succ, List.set_cons_zero]
            refine Lim.stepR 22 (fun _ => trivial) rfl (by kernel_rfl) (fun _ _ _ _ h => h) hC9 rfl ?_; apply Exists.intro; refine ⟨?_, ?_⟩
            ·rintro w ⟨r1, r2, r3, r4, r5, r6⟩; go_simp; try with_reducible rfl
            simp only [Act.put, List.setIfInBounds_toArray, List.set_cons_succ, List.set_cons_zero]
            refine Lim.stepR 23 (fun _ => trivial) rfl (by kernel_rfl) (fun _ _ _ _ h => h) hC9 rfl ?_; apply Exists.intro; refine ⟨?_, ?_⟩
            ·rintro w ⟨r1, r2, r3, r4, r5, r6⟩; go_simp; try with_reducible rfl
            simp only [Act.put, List.setIfInBounds_toArray, List.set_cons_succ, List.set_cons_zero]
            refine Lim.stepR 24 (fun _ => trivial) rfl (by kernel_rfl) (fun _ _ _ _ h => h) hC9 rfl ?_; apply Exists.intro; refine ⟨?_, ?_⟩
            ·rintro w ⟨r1, r2, r3, r4, r5, r6⟩; go_simp; try with_reducible rfl
            simp only [Act.put, List.setIfInBounds_toArray, List.set_cons_succ, List.set_cons_zero]
            refine Lim.stepR 25 (fun _ => trivial) rfl (by kernel_rfl) (fun _ _ _ _ h => h) hC9 rfl ?_; apply Exists.intro; refine ⟨?_, ?_⟩
            ·rintro w ⟨r1, r2, r3, r4, r5, r6⟩; go_simp; try with_reducible rfl
            simp only [Act.put, List.setIfInBounds_toArray, List.set_cons_succ, List.set_cons_zero]
            refine Lim.stepR 26 (fun _ => trivial) rfl (by kernel_rfl) (fun _ _ _ _ h => h) hC9 rfl ?_; apply Exists.intro; refine ⟨?_, ?_⟩
            ·rintro w ⟨r1, r2, r3, r4, r5, r6⟩; go_simp; try with_reducible rfl
            simp only [Act.put, List.setIfInBounds_toArray, List.set_cons_succ, List.set_cons_zero]
            refine Lim.stepR 27 (fun _ => trivial) rfl (by kernel_rfl) (fun _ _ _ _ h => h) hC9 rfl ?_; apply Exists.intro; refine ⟨?_, ?_⟩
            ·rintro w ⟨r1, r2, r3, r4, r5, r6⟩; go_simp; try with_reducible rfl
            simp only [Act.put, List.setIfInBounds_toArray, List.set_cons_succ, List.set_cons_zero]
            refine Lim.stepD (by kernel_rfl) ?_
            clear hC hC9
            go_wp2_with fail
            go_roundw
            case rel => exact ⟨b + 1, fb, zb, by omega, by go_num, rfl, Lib.hid ⟨HP9.out, hP.out.2.1, hP.out.2.2.skip (fun _ _ => by rw [← HY.out.2.2.1, ← HY.out.2.2.2]; exact HX.out)⟩⟩
            case measure => simp [intOf]; omega
          ·have d1 : (ya == yb) = false := by simp [ho]
           have HO := Lib.hid ho
           clear ho
           refine Lim.regC' (fun W => W.cell? ⟨q, 0, none⟩ = some (.int .i64 m.wd) ∧ W.cell? ⟨q, 1, none⟩ = some (.slice (some ⟨ob, oo, none⟩) m.n oc) ∧ W.cell? ⟨ob, oo + a, none⟩ = some (.int .i64 ya) ∧ W.cell? ⟨ob, oo + b, none⟩ = some (.int .i64 yb) ∧ W.cell? ⟨g, a, none⟩ = some (.int .i64 xa) ∧ W.cell? ⟨g, b, none⟩ = some (.int .i64 xb)) [] #[false, false, false, false, false, false, false, false, false, false, false, false, false, false, false, false, false, false, false, false, false, false, false, false, false, false, false, false] (by kernel_rfl) rfl ?_
           refine Lim.stepR 0 (fun _ => trivial) rfl (by kernel_rfl) (fun _ _ _ _ h => h) hC rfl ?_; apply Exists.intro; refine ⟨?_, ?_⟩
           ·rintro w ⟨r1, r2, r3, r4, r5, r6⟩; go_simp; try with_reducible rfl
           simp only [Act.put, List.setIfInBounds_toArray, List.set_cons_succ, List.set_cons_zero]
           refine Lim.stepR 1 (fun _ => trivial) rfl (by kernel_rfl) (fun _ _ _ _ h => h) hC rfl ?_; apply Exists.intro; refine ⟨?_, ?_⟩
           ·rintro w ⟨r1, r2, r3, r4, r5, r6⟩; go_simp; try with_reducible rfl
           simp only [Act.put, List.setIfInBounds_toArray, List.set_cons_succ, List.set_cons_zero]
           refine Lim.stepR 2 (fun _ => trivial) rfl (by kernel_rfl) (fun _ _ _ _ h => h) hC rfl ?_; apply Exists.intro; refine ⟨?_, ?_⟩
           ·rintro w ⟨r1, r2, r3, r4, r5, r6⟩; go_simp; try with_reducible rfl
           simp only [Act.put, List.setIfInBounds_toArray, List.set_cons_succ, List.set_cons_zero]
           refine Lim.stepE 3 (fun _ => trivial) rfl (by kernel_rfl) rfl (fun K hK => ?_)   -- E call
           go_simp
           refine ⟨rfl, (callsIn_wide.2 (HBE.out _)).mono ?_⟩
           rintro e w9 ⟨rfl, hb9⟩
           have HP9 := Lib.hid (hP.out.1.on ((Below.refl _ wr).drew.trans hb9))
           have hC9 : (fun W => W.cell? ⟨q, 0, none⟩ = some (.int .i64 m.wd) ∧ W.cell? ⟨q, 1, none⟩ = some (.slice (some ⟨ob, oo, none⟩) m.n oc) ∧ W.cell? ⟨ob, oo + a, none⟩ = some (.int .i64 ya) ∧ W.cell? ⟨ob, oo + b, none⟩ = some (.int .i64 yb) ∧ W.cell? ⟨g, a, none⟩ = some (.int .i64 xa) ∧ W.cell? ⟨g, b, none⟩ = some (.int .i64 xb)) w9 := ⟨hb9.on hC.1, hb9.on hC.2.1, hb9.on hC.2.2.1, hb9.on hC.2.2.2.1, hb9.on hC.2.2.2.2.1, hb9.on hC.2.2.2.2.2⟩
           refine hK _ _ hC9 ?_
           clear hb9
           simp only [Act.put, List.setIfInBounds_toArray, List.set_cons_succ, List.set_cons_zero]
           refine Lim.stepR 4 (fun _ => trivial) rfl (by kernel_rfl) (fun _ _ _ _ h => h) hC9 rfl ?_; apply Exists.intro; refine ⟨?_, ?_⟩
           ·rintro w ⟨r1, r2, r3, r4, r5, r6⟩; go_simp; try with_reducible rfl
           simp only [Act.put, List.setIfInBounds_toArray, List.set_cons_succ, List.set_cons_zero]
           refine Lim.stepR 5 (fun _ => trivial) rfl (by kernel_rfl) (fun _ _ _ _ h => h) hC9 rfl ?_; apply Exists.intro; refine ⟨?_, ?_⟩
           ·rintro w ⟨r1, r2, r3, r4, r5, r6⟩; go_simp; try with_reducible rfl
           simp only [Act.put, List.setIfInBounds_toArray, List.set_cons_succ, List.set_cons_zero]
           refine Lim.stepR 6 (fun _ => trivial) rfl (by kernel_rfl) (fun _ _ _ _ h => h) hC9 rfl ?_; apply Exists.intro; refine ⟨?_, ?_⟩
           ·rintro w ⟨r1, r2, r3, r4, r5, r6⟩; go_simp; try with_reducible rfl
           simp only [Act.put, List.setIfInBounds_toArray, List.set_cons_succ, List.set_cons_zero]
           refine Lim.stepR 7 (fun _ => trivial) rfl (by kernel_rfl) (fun _ _ _ _ h => h) hC9 rfl ?_; apply Exists.intro; refine ⟨?_, ?_⟩
           ·rintro w ⟨r1, r2, r3, r4, r5, r6⟩; go_simp; try with_reducible rfl
           simp only [Act.put, List.setIfInBounds_toArray, List.set_cons_succ, List.set_cons_zero]
           refine Lim.stepR 8 (fun _ => trivial) rfl (by kernel_rfl) (fun _ _ _ _ h => h) hC9 rfl ?_; apply Exists.intro; refine ⟨?_, ?_⟩
           ·rintro w ⟨r1, r2, r3, r4, r5, r6⟩; go_simp; try with_reducible rfl
           simp only [Act.put, List.setIfInBounds_toArray, List.set_cons_succ, List.set_cons_zero]
           refine Lim.stepR 9 (fun _ => trivial) rfl (by kernel_rfl) (fun _ _ _ _ h => h) hC9 rfl ?_; apply Exists.intro; refine ⟨?_, ?_⟩
           ·rintro w ⟨r1, r2, r3, r4, r5, r6⟩; go_simp; try with_reducible rfl
           simp only [Act.put, List.setIfInBounds_toArray, List.set_cons_succ, List.set_cons_zero]
           refine Lim.stepR 10 (fun _ => trivial) rfl (by kernel_rfl) (fun _ _ _ _ h => h) hC9 rfl ?_; apply Exists.intro; refine ⟨?_, ?_⟩
           ·rintro w ⟨r1, r2, r3, r4, r5, r6⟩; go_simp; try with_reducible rfl
           simp only [Act.put, List.setIfInBounds_toArray, List.set_cons_succ, List.set_cons_zero]
           refine Lim.stepR 11 (fun _ => trivial) rfl (by kernel_rfl) (fun _ _ _ _ h => h) hC9 rfl ?_; apply Exists.intro; refine ⟨?_, ?_⟩
           ·rintro w ⟨r1, r2, r3, r4, r5, r6⟩; go_simp; try with_reducible rfl
           simp only [Act.put, List.setIfInBounds_toArray, List.set_cons_succ, List.set_cons_zero]
           refine Lim.stepR 12 (fun _ => trivial) rfl (by kernel_rfl) (fun _ _ _ _ h => h) hC9 rfl ?_; apply Exists.intro; refine ⟨?_, ?_⟩
           ·rintro w ⟨r1, r2, r3, r4, r5, r6⟩; go_simp; try with_reducible rfl
           simp only [Act.put, List.setIfInBounds_toArray, List.set_cons_succ, List.set_cons_zero]
           refine Lim.stepR 13 (fun _ => trivial) rfl (by kernel_rfl) (fun _ _ _ _ h => h) hC9 rfl ?_; apply Exists.intro; refine ⟨?_, ?_⟩
           ·rintro w ⟨r1, r2, r3, r4, r5, r6⟩; go_simp; try with_reducible rfl
           simp only [Act.put, List.setIfInBounds_toArray, List.set_cons_succ, List.set_cons_zero]
           refine Lim.stepR 14 (fun _ => trivial) rfl (by kernel_rfl) (fun _ _ _ _ h => h) hC9 rfl ?_; apply Exists.intro; refine ⟨?_, ?_⟩
           ·rintro w ⟨r1, r2, r3, r4, r5, r6⟩; go_simp; try with_reducible rfl
           simp only [Act.put, List.setIfInBounds_toArray, List.set_cons_succ, List.set_cons_zero]
           refine Lim.stepR 15 (fun _ => trivial) rfl (by kernel_rfl) (fun _ _ _ _ h => h) hC9 rfl ?_; apply Exists.intro; refine ⟨?_, ?_⟩
           ·rintro w ⟨r1, r2, r3, r4, r5, r6⟩; go_simp; try with_reducible rfl
           simp only [Act.put, List.setIfInBounds_toArray, List.set_cons_succ, List.set_cons_zero]
           refine Lim.stepR 16 (fun _ => trivial) rfl (by kernel_rfl) (fun _ _ _ _ h => h) hC9 rfl ?_; apply Exists.intro; refine ⟨?_, ?_⟩
           ·rintro w ⟨r1, r2, r3, r4, r5, r6⟩; go_simp; try with_reducible rfl
           simp only [Act.put, List.setIfInBounds_toArray, List.set_cons_succ, List.set_cons_zero]
           refine Lim.stepR 17 (fun _ => trivial) rfl (by kernel_rfl) (fun _ _ _ _ h => h) hC9 rfl ?_; apply Exists.intro; refine ⟨?_, ?_⟩
           ·rintro w ⟨r1, r2, r3, r4, r5, r6⟩; go_simp; try with_reducible rfl
           simp only [Act.put, List.setIfInBounds_toArray, List.set_cons_succ, List.set_cons_zero]
           refine Lim.stepS 18 (fun _ => trivial) rfl (by kernel_rfl) (fun _ _ _ _ h => h) hC9 rfl ?_
           simp only [Act.put, List.setIfInBounds_toArray, List.set_cons_succ, List.set_cons_zero]
           refine Lim.stepS 19 (fun _ => trivial) rfl (by kernel_rfl) (fun _ _ _ _ h => h) hC9 rfl ?_
           simp only [Act.put, List.setIfInBounds_toArray, List.set_cons_succ, List.set_cons_zero]
           refine Lim.stepS 20 (fun _ => trivial) rfl (by kernel_rfl) (fun _ _ _ _ h => h) hC9 rfl ?_
           simp only [Act.put, List.setIfInBounds_toArray, List.set_cons_succ, List.set_cons_zero]
           refine Lim.stepS 21 (fun _ => trivial) rfl (by kernel_rfl) (fun _ _ _ _ h => h) hC9 rfl ?_
           simp only [Act.put, List.setIfInBounds_toArray, List.set_cons_succ, List.set_cons_zero]
           refine Lim.stepS 22 (fun _ => trivial) rfl (by kernel_rfl) (fun _ _ _ _ h => h) hC9 rfl ?_
           simp only [Act.put, List.setIfInBounds_toArray, List.set_cons_succ, List.set_cons_zero]
           refine Lim.stepS 23 (fun _ => trivial) rfl (by kernel_rfl) (fun _ _ _ _ h => h) hC9 rfl ?_
           simp only [Act.put, List.setIfInBounds_toArray, List.set_cons_succ, List.set_cons_zero]
           refine Lim.stepS 24 (fun _ => trivial) rfl (by kernel_rfl) (fun _ _ _ _ h => h) hC9 rfl ?_
           simp only [Act.put, List.setIfInBounds_toArray, List.set_cons_succ, List.set_cons_zero]
           refine Lim.stepS 25 (fun _ => trivial) rfl (by kernel_rfl) (fun _ _ _ _ h => h) hC9 rfl ?_
           simp only [Act.put, List.setIfInBounds_toArray, List.set_cons_succ, List.set_cons_zero]
           refine Lim.stepS 26 (fun _ => trivial) rfl (by kernel_rfl) (fun _ _ _ _ h => h) hC9 rfl ?_
           simp only [Act.put, List.setIfInBounds_toArray, List.set_cons_succ, List.set_cons_zero]
           refine Lim.stepR 27 (fun _ => trivial) rfl (by kernel_rfl) (fun _ _ _ _ h => h) hC9 rfl ?_; apply Exists.intro; refine ⟨?_, ?_⟩
           ·rintro w ⟨r1, r2, r3, r4, r5, r6⟩; go_simp; try with_reducible rfl
           simp only [Act.put, List.setIfInBounds_toArray, List.set_cons_succ, List.set_cons_zero]
           refine Lim.stepD (by kernel_rfl) ?_
           clear hC hC9
           go_wp2_with fail
           go_roundw
           case rel => exact ⟨b + 1, fb, zb, by omega, by go_num, rfl, Lib.hid ⟨HP9.out, hP.out.2.1, hP.out.2.2.skip (fun _ h => absurd (by rw [HY.out.1, HY.out.2.1]; exact h) HO.out)⟩⟩
           case measure => simp [intOf]; omega
         ·have hb' : ¬ (b : Int) < m.n := by omega
          obtain rfl : b = m.n := by omega
          go_wp2_with fail
          go_roundw
          case rel => exact ⟨a + 1, fb, zb, by omega, by go_num, rfl, Lib.hid ⟨hP.out.1, hP.out.2.1, hP.out.2.2.row⟩⟩
          case measure => simp [intOf]; omega
       ·have ha' : ¬ (a : Int) < m.n := by omega
        obtain rfl : a = m.n := by omega
        go_wp2_with fail
        go_roundw
        case rel =>
         refine ⟨fa, za, rfl, Lib.hid ⟨hA.out.1, hA.out.2.1, fun e => ?_⟩⟩
         have h := (hA.out.2.2.1 e).2
         intro x y hx hy hn ho
         exact h x y (.inl hx) hx hy hn ho
        case measure =>
         have h1 := hA.out.1.r.sum m.n (Nat.le_refl _)
         have h2 := HS0.out
         cases za with
         | false => rw [h1, (hA.out.2.2.1 rfl).1, h2]; simp [flagN]
         | true => have := hA.out.2.2.2 rfl; rw [h1, h2]; simp [flagN]; omega
 ·have g1 : (errE wd os != 0) = true := by simpa using he
  have HE := Lib.hid he
  obtain ⟨er, her⟩ : ∃ er, er = errE wd os := ⟨_, rfl⟩
  rw [← her] at g1 ⊢
  have HER := Lib.hid her
  clear he her
  go_wp2_with fail
  go_ret2
  exact ⟨HB2.out, .inl ⟨HE.out, by rw [← HER.out]; rfl⟩⟩
end Go.Proofs.Ytkjcnkkmhkcddaa
/-
  The reference's question whether a region lies within another one: the contracts of its functions within and owner.
-/
namespace Go.Proofs.Ytkjcnkkmhkcddaa
open Go.RowKit Go.Shelf
open Lim

attribute [local go_sem] Oper.semAt_some

theorem Try.infoBool : (Try.prog.info? 4).map (fun i => (i.zero, i.size, i.bytes)) = some (some (.bool false), 1, 1) := by kernel_rfl
theorem made_bools {w : World} {i : TypeInfo} (hi : Try.prog.info? 4 = some i ∧ i.zero = some (.bool false) ∧ i.size = 1 ∧ i.bytes = 1) {n : Nat} (hn : n ≤ 1000) :
  (Instr.makeSlice 74 (.int .i64 (n : Int)) (.int .i64 (n : Int))).run Try.prog w = .ok (.slice (some ⟨w.heap.size, 0, none⟩) n n) (w.alloc (.cells (Array.replicate n (.bool false)) 4)) := by
 have h := run_make (P := Try.prog) w 74 4 i (.bool false) Try.underlying74 hi.1 hi.2.1 .i64 .i64 n n (by omega) (by omega) (by rw [hi.2.2.2]; omega) (by omega)
 rw [h, hi.2.2.1]
 simp only [Int.toNat_natCast, Nat.mul_one]
 have e : madeCells (Value.bool false).cells n = Array.replicate n (Value.bool false) := by
  show madeCells #[Value.bool false] n = _
  rw [← Array.toList_inj, toList_madeCells_one, Array.toList_replicate]
 rw [e]
/-- n answers in a block of their own, which are written -/
structure RowB (W : World) (g n : Nat) (B : Nat → Bool) : Prop where
 c : ∀ j, j < n → W.cell? ⟨g, j, none⟩ = some (.bool (B j))
 f : ∀ j, j < n → W.frozen? ⟨g, j, none⟩ = false
 lt : g < W.heap.size
section
variable {W W' : World} {g n : Nat} {B : Nat → Bool}
theorem RowB.sep {T : Nat → Prop} (h : RowB W g n B) (hs : Sep T W W') (hT : ¬ T g) : RowB W' g n B := ⟨fun j hj => hs.cell (h.c j hj) hT, fun j hj => hs.frozen (h.c j hj) hT (h.f j hj), Nat.lt_of_lt_of_le h.lt hs.size⟩
theorem RowB.grow (h : RowB W g n B) (hb : Below W.heap.size W W') : RowB W' g n B := h.sep (T := fun _ => False) (Sep.of_below hb) id
theorem RowB.congr (h : RowB W g n B) {B' : Nat → Bool} (e : ∀ j, j < n → B j = B' j) : RowB W g n B' := ⟨fun j hj => by rw [← e j hj]; exact h.c j hj, h.f, h.lt⟩
theorem RowB.made (w : World) (n : Nat) : RowB (w.alloc (.cells (Array.replicate n (.bool false)) 4)) w.heap.size n (fun _ => false) :=
 ⟨fun j hj => by rw [World.cell?_alloc_new, Array.getElem?_replicate, if_pos hj], fun j hj => World.frozen?_alloc_new .., by simp⟩
theorem RowB.put (h : RowB W g n B) {k : Nat} (hk : k < n) (v : Bool) : RowB (W.setCell ⟨g, k, none⟩ (.bool v)) g n (fun x => if x = k then v else B x) := by
 refine ⟨fun j hj => ?_, fun j hj => by rw [World.frozen?_setCell]; exact h.f j hj, by have := h.lt; simpa [World.setCell] using this⟩
 by_cases e : j = k
 ·subst e; rw [setCell_same _ _ (h.c j hj), if_pos rfl]
 ·rw [setCell_off _ _ (fun e' => e e'.symm), if_neg e]; exact h.c j hj
end
def cellB : Option Value → Nat
 | some (.bool true) => 0
 | _ => 1
def sumB (W : World) (g : Nat) : Nat → Nat
 | 0 => 0
 | n + 1 => sumB W g n + cellB (W.cell? ⟨g, n, none⟩)
def unB (B : Nat → Bool) (n : Nat) : Nat := sumF (fun p => if B p = true then 0 else 1) n
theorem RowB.sum {W : World} {g n : Nat} {B : Nat → Bool} (h : RowB W g n B) : ∀ t, t ≤ n → sumB W g t = unB B t
 | 0, _ => rfl
 | t + 1, ht => by
  rw [sumB, h.sum t (by omega), h.c t (by omega)]
  unfold unB
  rw [sumF]
  cases B t <;> rfl
theorem unB_set {B : Nat → Bool} {b n : Nat} (hb : b < n) (hB : B b = false) : unB (fun x => if x = b then true else B x) n < unB B n := by
 have h := (sumF_upd (f := fun p => if B p = true then 0 else 1) (k := b) (v := 0) n).2 hb
 have e : (fun p => if (if p = b then true else B p) = true then 0 else 1) = (fun x => if x = b then 0 else if B x = true then 0 else 1) := by
  funext p
  by_cases e : p = b
  ·simp [e]
  ·simp [e]
 unfold unB
 rw [e]
 simp only [hB] at h
 simp at h
 omega
/-- the map in block q and a row of answers in block g -/
structure WiM (w : World) (q g n wd : Nat) (oa : Option Addr) (oc : Nat) (B : Nat → Bool) (W : World) : Prop where
 be : Below w.heap.size w W
 c0 : W.cell? ⟨q, 0, none⟩ = some (.int .i64 wd)
 c1 : W.cell? ⟨q, 1, none⟩ = some (.slice oa n oc)
 r : RowB W g n B
 lt : w.heap.size ≤ q ∧ w.heap.size ≤ g ∧ q ≠ g
section
variable {w W W' : World} {q g n wd : Nat} {oa : Option Addr} {oc : Nat} {B : Nat → Bool}
theorem WiM.on (h : WiM w q g n wd oa oc B W) (hb : Below W.heap.size W W') : WiM w q g n wd oa oc B W' := ⟨h.be.trans (hb.mono h.be.size), hb.on h.c0, hb.on h.c1, h.r.grow hb, h.lt⟩
theorem WiM.put (h : WiM w q g n wd oa oc B W) {k : Nat} (hk : k < n) (v : Bool) : WiM w q g n wd oa oc (fun x => if x = k then v else B x) (W.setCell ⟨g, k, none⟩ (.bool v)) :=
 have hs := Sep.set W g k (.bool v)
 ⟨h.be.setCell (p := ⟨g, k, none⟩) h.lt.2.1 _, hs.cell h.c0 h.lt.2.2, hs.cell h.c1 h.lt.2.2, h.r.put hk v, h.lt⟩
theorem WiM.congr (h : WiM w q g n wd oa oc B W) {B' : Nat → Bool} (e : ∀ j, j < n → B j = B' j) : WiM w q g n wd oa oc B' W := ⟨h.be, h.c0, h.c1, h.r.congr e, h.lt⟩
end
/-- while a pass looks at pair (a, b) -/
def PassB (m : Mp) (r : Nat → Nat) (j : Nat) (B0 B : Nat → Bool) (z : Bool) (a b : Nat) : Prop :=
 (z = false → B = B0 ∧ ∀ x y, (x < a ∨ x = a ∧ y < b) → x < m.n → y < m.n → B x = true → nb m x y → r y ≠ j → B y = true) ∧ (z = true → unB B m.n < unB B0 m.n)
section
variable {m : Mp} {r : Nat → Nat} {j : Nat} {B0 B : Nat → Bool} {z : Bool} {a b : Nat}
theorem PassB.skip (h : PassB m r j B0 B z a b) (hs : B a = true → nb m a b → r b ≠ j → B b = true) : PassB m r j B0 B z a (b + 1) :=
 ⟨fun hz => ⟨(h.1 hz).1, fun x y hxy hx hy hB hn ho => by
  by_cases e : x = a ∧ y = b
  ·rw [e.2]; rw [e.1] at hB hn; rw [e.2] at hn ho; exact hs hB hn ho
  ·exact (h.1 hz).2 x y (by omega) hx hy hB hn ho⟩, h.2⟩
theorem PassB.set (h : PassB m r j B0 B z a b) (hb : b < m.n) (hB : B b = false) : PassB m r j B0 (fun x => if x = b then true else B x) true a (b + 1) := by
 refine ⟨fun e => (by cases e), fun _ => ?_⟩
 have h1 := unB_set hb hB
 have h2 : unB B m.n ≤ unB B0 m.n := by
  cases z with
  | false => rw [(h.1 rfl).1]; exact Nat.le_refl _
  | true => exact Nat.le_of_lt (h.2 rfl)
 omega
theorem PassB.row (h : PassB m r j B0 B z a m.n) : PassB m r j B0 B z (a + 1) 0 :=
 ⟨fun hz => ⟨(h.1 hz).1, fun x y hxy hx hy => (h.1 hz).2 x y (by omega) hx hy⟩, h.2⟩
theorem PassB.start (m : Mp) (r : Nat → Nat) (j : Nat) (B : Nat → Bool) : PassB m r j B B false 0 0 := ⟨fun _ => ⟨rfl, fun x y h => by omega⟩, fun e => by cases e⟩
end
theorem reg_cell {B : Nat} {W : World} {v : Value} {r : Nat → Nat} {n : Nat} (h : RS B W v n (ints (regL r n))) (hn : 0 < n) : ∃ g o c, v = .slice (some ⟨g, o, none⟩) n c ∧ g < B ∧ ∀ p, p < n → W.cell? ⟨g, o + p, none⟩ = some (.int .i64 (r p : Nat)) := by
 obtain ⟨a, c, rfl, h⟩ := h
 obtain ⟨g, o, rfl, hg, hc⟩ := h (by intro e; have := congrArg List.length e; simp [ints, regL] at this; omega)
 exact ⟨g, o, c, rfl, hg, fun p hp => hc p _ (by unfold ints regL; rw [List.getElem?_map, List.getElem?_map, List.getElem?_range hp]; rfl)⟩
/-- what the reference's within answers -/
def WiAns (m : Mp) (r : Nat → Nat) (i j : Nat) (w : World) (e : Ending) (w' : World) : Prop := (∃ z, e = .returned (.bool z) ∧ (z = true ↔ ¬ OutW m r i j)) ∧ Below w.heap.size w w'
set_option maxRecDepth 20000 in
set_option maxHeartbeats 4000000 in
theorem rwithin_any {B : Nat} {m : Mp} {r : Nat → Nat} {i j oc : Nat} {oa : Option Addr} {lv : Value} {w : World} (hm : m.Ok) (hB : B ≤ w.heap.size) (hl : RS B w lv m.n (ints (regL r m.n))) :
  Calls Try.prog 66 #[.agg #[.int .i64 m.wd, .slice oa m.n oc], lv, .int .i64 i, .int .i64 j] w fun e w' => WiAns m r i j w e w' := by
 obtain ⟨gl, ol, cl, rfl, hgl, hcl⟩ := reg_cell hl hm.n0
 have HLC : Hid (∀ W, Below w.heap.size w W → ∀ p, p < m.n → W.cell? ⟨gl, ol + p, none⟩ = some (.int .i64 (r p : Nat))) := Lib.hid fun W hW p hp => cell_below (hW.mono hB) (hcl p hp) hgl
 have HM := Lib.hid hm
 have hn100 : m.n ≤ 100 := hm.n1
 obtain ⟨i0, hi, hz0, hz1, hz2⟩ := info_parts Try.infoBool
 have hsz : w.heap.size < (w.alloc (.cells #[.int .i64 m.wd, .slice oa m.n oc] 28)).heap.size := by simp
 have hmk := made_bools (w := w.alloc (.cells #[.int .i64 m.wd, .slice oa m.n oc] 28)) ⟨hi, hz0, hz1, hz2⟩ (n := m.n) (by omega)
 have HR0 : Hid (WiM w w.heap.size (w.alloc (.cells #[.int .i64 m.wd, .slice oa m.n oc] 28)).heap.size m.n m.wd oa oc (fun p => decide (p < 0) && (rimB m p && decide (r p ≠ j))) ((w.alloc (.cells #[.int .i64 m.wd, .slice oa m.n oc] 28)).alloc (.cells (Array.replicate m.n (.bool false)) 4))) := Lib.hid (by
  have hb0 := (Below.refl w.heap.size w).alloc (Nat.le_refl _) (.cells #[.int .i64 m.wd, .slice oa m.n oc] 28)
  have f0 : (w.alloc (.cells #[.int .i64 m.wd, .slice oa m.n oc] 28)).cell? ⟨w.heap.size, 0, none⟩ = some (.int .i64 m.wd) := by simp [go_sem]
  have f1 : (w.alloc (.cells #[.int .i64 m.wd, .slice oa m.n oc] 28)).cell? ⟨w.heap.size, 1, none⟩ = some (.slice oa m.n oc) := by simp [go_sem]
  generalize w.alloc (.cells #[.int .i64 m.wd, .slice oa m.n oc] 28) = w1 at hb0 f0 f1 hsz ⊢
  have hbn : Below w1.heap.size w1 (w1.alloc (.cells (Array.replicate m.n (.bool false)) 4)) := (Below.refl _ _).alloc (Nat.le_refl _) _
  exact ⟨hb0.trans (hbn.mono hb0.size), hbn.on f0, hbn.on f1, (RowB.made w1 m.n).congr (fun p _ => by simp), Nat.le_refl _, hb0.size, by omega⟩)
 clear hm hB hl hgl hcl hi hz0 hz1 hz2 hsz
 go_enter Try.func66, Try.ntmps66
 go_wp2_with fail
 generalize (w.alloc (.cells #[.int .i64 m.wd, .slice oa m.n oc] 28)).alloc (.cells (Array.replicate m.n (.bool false)) 4) = w3 at HR0 ⊢
 obtain ⟨g, hg⟩ : ∃ g, g = (w.alloc (.cells #[.int .i64 m.wd, .slice oa m.n oc] 28)).heap.size := ⟨_, rfl⟩
 have hg2 : w.heap.size + 1 = g := by rw [hg]; simp
 rw [← hg] at HR0
 obtain ⟨q, hq⟩ : ∃ q, q = w.heap.size := ⟨_, rfl⟩
 first | rw [hg2] | skip
 have HR0 : Hid (WiM w q g m.n m.wd oa oc (fun p => decide (p < 0) && (rimB m p && decide (r p ≠ j))) w3) := by rw [hq]; exact HR0
 rw [← hq]
 clear hg hg2 hq hmk
 go_loopw [11] (fun v wr => ∃ p : Nat, p ≤ m.n ∧ v = .int .i64 p ∧ Hid (WiM w q g m.n m.wd oa oc (fun x => decide (x < p) && (rimB m x && decide (r x ≠ j))) wr)) (fun v _ => m.n - (intOf v).toNat)
 case atStart => exact ⟨0, Nat.zero_le _, rfl, HR0⟩
 case round =>
  clear HR0
  obtain ⟨p, hp, rfl, hI⟩ := hrel
  have hp64 : (p : Int) ≤ 100 := by omega
  by_cases hlt : p < m.n
  ·have hlt64 : (p : Int) < m.n := by omega
   obtain ⟨z1, hz1⟩ : ∃ z, z = rimB m p := ⟨_, rfl⟩
   have HED : Hid (∀ W, Calls Try.prog 73 #[.agg #[.int .i64 m.wd, .slice oa m.n oc], .int .i64 p] W fun e w' => e = .returned (.bool z1) ∧ Below W.heap.size W w') := Lib.hid fun W => by rw [hz1]; exact redge_any HM.out hlt
   have c0 := hI.out.c0
   have c1 := hI.out.c1
   obtain ⟨x, hx⟩ : ∃ x, x = r p := ⟨_, rfl⟩
   have HNX : Hid (∀ W (v : Bool), Below wr.heap.size wr W → v = (z1 && decide (x ≠ j)) → WiM w q g m.n m.wd oa oc (fun x => decide (x < p + 1) && (rimB m x && decide (r x ≠ j))) (W.setCell ⟨g, p, none⟩ (.bool v))) := Lib.hid fun W v hW hv => ((hI.out.on hW).put hlt v).congr (fun y _ => by
    by_cases e : y = p
    ·rw [if_pos e, e, hv, hz1, hx]; simp
    ·rw [if_neg e]
     by_cases e2 : y < p
     ·rw [decide_eq_true e2, decide_eq_true (show y < p + 1 by omega)]
     ·rw [decide_eq_false e2, decide_eq_false (show ¬ y < p + 1 by omega)])
   clear hz1
   go_wp2_with fail
   refine (HED.out _).mono ?_
   rintro e w4 ⟨rfl, hb4⟩
   have HB4 := Lib.hid hb4
   have hP := hI.out.on hb4
   have cp := hP.r.c p hlt
   have fp := hP.r.f p hlt
   have lp := HLC.out w4 hP.be p hlt
   rw [← hx] at lp
   clear hb4 hP hx hI c0 c1
   cases z1 with
   | false =>
    go_wp2_with fail
    go_roundw
    case rel => exact ⟨p + 1, by omega, by go_num, Lib.hid (HNX.out w4 false HB4.out (by simp))⟩
    case measure => simp [intOf]; omega
   | true =>
    by_cases hxj : x = j
    ·have d1 : ((x : Int) != j) = false := by simp [hxj]
     have d2 : (x != j) = false := by simp [hxj]
     have HX := Lib.hid hxj
     clear hxj
     go_wp2_with fail
     go_roundw
     case rel => exact ⟨p + 1, by omega, by go_num, Lib.hid (HNX.out w4 false HB4.out (by simp [HX.out]))⟩
     case measure => simp [intOf]; omega
    ·have d1 : ((x : Int) != j) = true := by simp; omega
     have d2 : (x != j) = true := by simpa using hxj
     have HX := Lib.hid hxj
     clear hxj
     go_wp2_with fail
     go_roundw
     case rel => exact ⟨p + 1, by omega, by go_num, Lib.hid (HNX.out w4 true HB4.out (by simp [HX.out]))⟩
     case measure => simp [intOf]; omega
  ·obtain rfl : p = m.n := by omega
   have HR1 : Hid (WiM w q g m.n m.wd oa oc (fun x => rimB m x && decide (r x ≠ j)) wr) := Lib.hid (hI.out.congr (fun y hy => by rw [decide_eq_true hy]; simp))
   clear hI
   go_wp2_with fail
   obtain ⟨wo, rfl⟩ : ∃ wo : World, wo = wr := ⟨_, rfl⟩
   go_loopw [12] (fun v wr => ∃ (A : Nat → Bool) (z : Bool), v = .bool z ∧ Hid (WiM w q g m.n m.wd oa oc A wr ∧ Fil m r j A ∧ (z = false → ∀ a b, a < m.n → b < m.n → A a = true → nb m a b → r b ≠ j → A b = true))) (fun v wr => sumB wr g m.n + flagN v)
   case atStart => exact ⟨_, true, rfl, Lib.hid ⟨HR1.out, Fil.begin, fun e => by cases e⟩⟩
   case round =>
    clear HR1
    obtain ⟨A, z, rfl, hJ⟩ := hrel
    cases z with
    | false =>
     have HF := Lib.hid (hJ.out.2.2 rfl)
     go_wp2_with fail
     obtain ⟨wp, rfl⟩ : ∃ wp : World, wp = wr := ⟨_, rfl⟩
     go_loopw [15] (fun v wr => ∃ p : Nat, p ≤ m.n ∧ v = .int .i64 p ∧ Hid (WiM w q g m.n m.wd oa oc A wr ∧ ∀ x, x < p → ¬ (r x = i ∧ A x = true))) (fun v _ => m.n - (intOf v).toNat)
     case atStart => exact ⟨0, Nat.zero_le _, rfl, Lib.hid ⟨hJ.out.1, fun x hx => by omega⟩⟩
     case round =>
      obtain ⟨p, hp, rfl, hK⟩ := hrel
      have hp64 : (p : Int) ≤ 100 := by omega
      by_cases hlt : p < m.n
      ·have hlt64 : (p : Int) < m.n := by omega
       have cp := hK.out.1.r.c p hlt
       have lp := HLC.out wr hK.out.1.be p hlt
       obtain ⟨x, hx⟩ : ∃ x, x = r p := ⟨_, rfl⟩
       obtain ⟨ap, hap⟩ : ∃ x, x = A p := ⟨_, rfl⟩
       rw [← hx] at lp
       rw [← hap] at cp
       have HX := Lib.hid (And.intro hx hap)
       clear hx hap
       by_cases hxi : x = i
       ·have d1 : ((x : Int) == i) = true := by simp [hxi]
        have d2 : (x == i) = true := by simp [hxi]
        have HXI := Lib.hid hxi
        clear hxi
        cases ap with
        | true =>
         go_wp2_with fail
         go_ret
         refine ⟨⟨false, rfl, ⟨fun h => (by cases h), fun h => absurd ((hJ.out.2.1.out HM.out HF.out).2 ⟨p, hlt, ?_, ?_⟩) h⟩⟩, hK.out.1.be⟩
         ·rw [← HX.out.1]; exact HXI.out
         ·exact HX.out.2.symm
        | false =>
         go_wp2_with fail
         go_roundw
         case rel =>
          refine ⟨p + 1, by omega, by go_num, Lib.hid ⟨hK.out.1, fun y hy h => ?_⟩⟩
          by_cases e : y = p
          ·rw [e, ← HX.out.2] at h; cases h.2
          ·exact hK.out.2 y (by omega) h
         case measure => simp [intOf]; omega
       ·have d1 : ((x : Int) == i) = false := by rw [beq_eq_false_iff_ne]; omega
        have d2 : (x == i) = false := by rw [beq_eq_false_iff_ne]; omega
        have HXI := Lib.hid hxi
        clear hxi
        go_wp2_with fail
        go_roundw
        case rel =>
         refine ⟨p + 1, by omega, by go_num, Lib.hid ⟨hK.out.1, fun y hy h => ?_⟩⟩
         by_cases e : y = p
         ·rw [e, ← HX.out.1] at h; exact HXI.out h.1
         ·exact hK.out.2 y (by omega) h
        case measure => simp [intOf]; omega
      ·have hp' : ¬ (p : Int) < m.n := by omega
       obtain rfl : p = m.n := by omega
       go_wp2_with fail
       go_ret
       refine ⟨⟨true, rfl, ⟨fun _ h => ?_, fun _ => rfl⟩⟩, hK.out.1.be⟩
       obtain ⟨x, hx, h1, h2⟩ := (hJ.out.2.1.out HM.out HF.out).1 h
       exact hK.out.2 x hx ⟨h1, h2⟩
    | true =>
     have HS0 : Hid (sumB wr g m.n = unB A m.n) := Lib.hid (hJ.out.1.r.sum m.n (Nat.le_refl _))
     go_wp2_with fail
     obtain ⟨wp, rfl⟩ : ∃ wp : World, wp = wr := ⟨_, rfl⟩
     go_loopw [12, 13] (fun zv v wr => ∃ (a : Nat) (A' : Nat → Bool) (z : Bool), a ≤ m.n ∧ v = .int .i64 a ∧ zv = .bool z ∧ Hid (WiM w q g m.n m.wd oa oc A' wr ∧ Fil m r j A' ∧ PassB m r j A A' z a 0)) (fun _ v _ => m.n - (intOf v).toNat)
     case atStart => exact ⟨0, A, false, Nat.zero_le _, rfl, rfl, Lib.hid ⟨hJ.out.1, hJ.out.2.1, PassB.start m r j A⟩⟩
     case round =>
      obtain ⟨a, Aa, za, ha, rfl, rfl, hA⟩ := hrel
      by_cases hlta : a < m.n
      ·have hlta64 : (a : Int) < m.n := by omega
       have ha64 : (a : Int) ≤ 100 := by omega
       go_wp2_with fail
       obtain ⟨wq, rfl⟩ : ∃ wq : World, wq = wr := ⟨_, rfl⟩
       go_loopw [12, 14] (fun zv v wr => ∃ (b : Nat) (A' : Nat → Bool) (z : Bool), b ≤ m.n ∧ v = .int .i64 b ∧ zv = .bool z ∧ Hid (WiM w q g m.n m.wd oa oc A' wr ∧ Fil m r j A' ∧ PassB m r j A A' z a b)) (fun _ v _ => m.n - (intOf v).toNat)
       case atStart => exact ⟨0, Aa, za, Nat.zero_le _, rfl, rfl, hA⟩
       case round =>
        clear hA
        obtain ⟨b, Ab, zb, hb, rfl, rfl, hP⟩ := hrel
        by_cases hltb : b < m.n
        ·have hltb64 : (b : Int) < m.n := by omega
         have hb64 : (b : Int) ≤ 100 := by omega
         obtain ⟨c0, c1⟩ := And.intro hP.out.1.c0 hP.out.1.c1
         obtain ⟨xa, hxa⟩ : ∃ x, x = Ab a := ⟨_, rfl⟩
         obtain ⟨xb, hxb⟩ : ∃ x, x = Ab b := ⟨_, rfl⟩
         obtain ⟨x, hx⟩ : ∃ x, x = r b := ⟨_, rfl⟩
         have ca := hP.out.1.r.c a hlta
         have cb := hP.out.1.r.c b hltb
         have lb := HLC.out wr hP.out.1.be b hltb
         rw [← hxa] at ca
         rw [← hxb] at cb
         rw [← hx] at lb
         have HX := Lib.hid (And.intro hxa (And.intro hxb hx))
         clear hxa hxb hx
         cases xa with
         | false =>
          go_wp2_with fail
          go_roundw
          case rel => exact ⟨b + 1, Ab, zb, by omega, by go_num, rfl, Lib.hid ⟨hP.out.1, hP.out.2.1, hP.out.2.2.skip (fun h => by rw [← HX.out.1] at h; cases h)⟩⟩
          case measure => simp [intOf]; omega
         | true =>
         cases xb with
         | true =>
          go_wp2_with fail
          go_roundw
          case rel => exact ⟨b + 1, Ab, zb, by omega, by go_num, rfl, Lib.hid ⟨hP.out.1, hP.out.2.1, hP.out.2.2.skip (fun _ _ _ => HX.out.2.1.symm)⟩⟩
          case measure => simp [intOf]; omega
         | false =>
         by_cases hxj : x = j
         ·have d1 : ((x : Int) != j) = false := by simp [hxj]
          have d2 : (x != j) = false := by simp [hxj]
          have HXJ := Lib.hid hxj
          clear hxj
          go_wp2_with fail
          go_roundw
          case rel => exact ⟨b + 1, Ab, zb, by omega, by go_num, rfl, Lib.hid ⟨hP.out.1, hP.out.2.1, hP.out.2.2.skip (fun _ _ h => absurd (by rw [← HX.out.2.2]; exact HXJ.out) h)⟩⟩
          case measure => simp [intOf]; omega
         ·have d1 : ((x : Int) != j) = true := by simp; omega
          have d2 : (x != j) = true := by simpa using hxj
          have HXJ := Lib.hid hxj
          clear hxj
          obtain ⟨z1, hz1⟩ : ∃ z, z = nbB m a b := ⟨_, rfl⟩
          have HBE : Hid (∀ W, Calls Try.prog 64 #[.agg #[.int .i64 m.wd, .slice oa m.n oc], .int .i64 a, .int .i64 b] W fun e w' => e = .returned (.bool z1) ∧ Below W.heap.size W w') := Lib.hid fun W => by
           rw [hz1]; exact rbeside_any HM.out hlta hltb
          have HZ1 : Hid (z1 = true ↔ nb m a b) := Lib.hid (by rw [hz1, nbB_iff])
          clear hz1
          go_wp2_with fail
          refine (HBE.out _).mono ?_
          rintro e w9 ⟨rfl, hb9⟩
          have HP9 := Lib.hid (hP.out.1.on hb9)
          have cb9 := HP9.out.r.c b hltb
          have fb9 := HP9.out.r.f b hltb
          clear hb9 c0 c1 ca cb lb
          cases z1 with
          | false =>
           go_wp2_with fail
           go_roundw
           case rel => exact ⟨b + 1, Ab, zb, by omega, by go_num, rfl, Lib.hid ⟨HP9.out, hP.out.2.1, hP.out.2.2.skip (fun _ hn _ => by have := HZ1.out.2 hn; cases this)⟩⟩
           case measure => simp [intOf]; omega
          | true =>
           have HN := Lib.hid (HP9.out.put hltb true)
           have HNB := Lib.hid (HZ1.out.1 rfl)
           go_wp2_with fail
           go_roundw
           case rel => exact ⟨b + 1, _, true, by omega, by go_num, rfl, Lib.hid ⟨HN.out, hP.out.2.1.add HM.out hlta hltb HX.out.1.symm HNB.out (by rw [← HX.out.2.2]; exact HXJ.out), hP.out.2.2.set hltb HX.out.2.1.symm⟩⟩
           case measure => simp [intOf]; omega
        ·have hb' : ¬ (b : Int) < m.n := by omega
         obtain rfl : b = m.n := by omega
         go_wp2_with fail
         go_roundw
         case rel => exact ⟨a + 1, Ab, zb, by omega, by go_num, rfl, Lib.hid ⟨hP.out.1, hP.out.2.1, hP.out.2.2.row⟩⟩
         case measure => simp [intOf]; omega
      ·have ha' : ¬ (a : Int) < m.n := by omega
       obtain rfl : a = m.n := by omega
       go_wp2_with fail
       go_roundw
       case rel => exact ⟨Aa, za, rfl, Lib.hid ⟨hA.out.1, hA.out.2.1, fun e x y hx hy => (hA.out.2.2.1 e).2 x y (.inl hx) hx hy⟩⟩
       case measure =>
        have h1 := hA.out.1.r.sum m.n (Nat.le_refl _)
        have h2 := HS0.out
        cases za with
        | false => rw [h1, (hA.out.2.2.1 rfl).1, h2]; simp [flagN]
        | true => have := hA.out.2.2.2 rfl; rw [h1, h2]; simp [flagN]; omega
set_option maxRecDepth 20000 in
set_option maxHeartbeats 1000000 in
theorem rowner_any {B : Nat} {m : Mp} {r : Nat → Nat} {x : Nat} {ov lv : Value} {w : World} (hm : m.Ok) (hB : B ≤ w.heap.size) (ho : RS B w ov m.n (ints m.os)) (hl : RS B w lv m.n (ints (regL r m.n))) (hx : ∃ p, p < m.n ∧ r p = x) :
  Calls Try.prog 53 #[.agg #[.int .i64 m.wd, ov], lv, .int .i64 x] w fun e w' => (∃ p, p < m.n ∧ r p = x ∧ e = .returned (.int .i64 (m.own p))) ∧ Below w.heap.size w w' := by
 obtain ⟨gl, ol, cl, rfl, hgl, hcl⟩ := reg_cell hl hm.n0
 obtain ⟨oa, oc, rfl, hoo⟩ := ho
 obtain ⟨ob, oo, rfl, hob, hocell⟩ := hoo (ints_ne hm.n0)
 have hb := (Below.refl w.heap.size w).alloc (Nat.le_refl _) (.cells #[.int .i64 m.wd, .slice (some ⟨ob, oo, none⟩) m.n oc] 28)
 have HB := Lib.hid hb
 have f1 : (w.alloc (.cells #[.int .i64 m.wd, .slice (some ⟨ob, oo, none⟩) m.n oc] 28)).cell? ⟨w.heap.size, 1, none⟩ = some (.slice (some ⟨ob, oo, none⟩) m.n oc) := by simp [go_sem]
 have HLC : Hid (∀ p, p < m.n → (w.alloc (.cells #[.int .i64 m.wd, .slice (some ⟨ob, oo, none⟩) m.n oc] 28)).cell? ⟨gl, ol + p, none⟩ = some (.int .i64 (r p : Nat)) ∧ (w.alloc (.cells #[.int .i64 m.wd, .slice (some ⟨ob, oo, none⟩) m.n oc] 28)).cell? ⟨ob, oo + p, none⟩ = some (.int .i64 (m.own p))) := Lib.hid fun p hp => by
  refine ⟨cell_below (hb.mono hB) (hcl p hp) hgl, ?_⟩
  have h := cell_below (hb.mono hB) (hocell p _ (ints_at' m.os p hp)) hob
  unfold Mp.own
  rw [List.getD_eq_getElem?_getD]; exact h
 have HM := Lib.hid hm
 have HXE := Lib.hid hx
 have hn100 : m.n ≤ 100 := hm.n1
 clear hm hB hl hgl hcl hoo hob hocell hb hx
 go_enter Try.func53, Try.ntmps53
 go_wp2_with fail
 generalize w.alloc (.cells #[.int .i64 m.wd, .slice (some ⟨ob, oo, none⟩) m.n oc] 28) = w1 at HB HLC f1 ⊢
 go_loop [7] (fun v => ∃ p : Nat, p ≤ m.n ∧ v = .int .i64 p ∧ Hid (∀ y, y < p → r y ≠ x)) (fun v => m.n - (intOf v).toNat)
 case atStart => exact ⟨0, Nat.zero_le _, rfl, Lib.hid fun y hy => by omega⟩
 case round =>
  obtain ⟨p, hp, rfl, hN⟩ := hrel
  have hp64 : (p : Int) ≤ 100 := by omega
  by_cases hlt : p < m.n
  ·have hlt64 : (p : Int) < m.n := by omega
   obtain ⟨lp, op⟩ := HLC.out p hlt
   obtain ⟨u, hu⟩ : ∃ u, u = r p := ⟨_, rfl⟩
   obtain ⟨y, hy⟩ : ∃ y, y = m.own p := ⟨_, rfl⟩
   rw [← hu] at lp
   rw [← hy] at op
   have HU := Lib.hid (And.intro hu hy)
   clear hu hy
   by_cases hux : u = x
   ·have d1 : ((u : Int) == x) = true := by simp [hux]
    have d2 : (u == x) = true := by simp [hux]
    have HE := Lib.hid hux
    clear hux
    go_wp2_with fail
    go_ret
    exact ⟨⟨p, hlt, by rw [← HU.out.1]; exact HE.out, by rw [← HU.out.2]; rfl⟩, HB.out⟩
   ·have d1 : ((u : Int) == x) = false := by rw [beq_eq_false_iff_ne]; omega
    have d2 : (u == x) = false := by rw [beq_eq_false_iff_ne]; omega
    have HE := Lib.hid hux
    clear hux
    go_wp2_with fail
    go_round
    case rel =>
     refine ⟨p + 1, by omega, by go_num, Lib.hid fun y hy => ?_⟩
     by_cases e : y = p
     ·rw [e, ← HU.out.1]; exact HE.out
     ·exact hN.out y (by omega)
    case measure => simp [intOf]; omega
  ·exfalso
   obtain ⟨p', h1, h2⟩ := HXE.out
   exact hN.out p' (by omega) h2
end Go.Proofs.Ytkjcnkkmhkcddaa
/-
  The reference's answers on ways: the contract of its function Out.
-/
namespace Go.Proofs.Ytkjcnkkmhkcddaa
open Go.RowKit Go.Shelf
open Lim

attribute [local go_sem] Oper.semAt_some

theorem IsReg.le {m : Mp} {r : Nat → Nat} (h : IsReg m r) : ∀ p, p < m.n → r p ≤ p := by
  intro p
  induction p using Nat.strongRecOn with
  | ind p ih =>
    intro hp
    by_cases e : r p = 0
    · omega
    · obtain ⟨q, h1, h2⟩ := h.grow p hp (r p - 1) (by omega)
      have := ih q h1 (by omega)
      omega
theorem regL_length (r : Nat → Nat) (n : Nat) : (regL r n).length = n := by simp [regL]
/-- how many there are, by the reference -/
theorem rmany_reg {m : Mp} {r : Nat → Nat} {k B : Nat} {v : Value} {w : World} (hm : m.Ok) (hr : IsReg m r) (hk : IsMany m r k) (hv : RS B w v m.n (ints (regL r m.n))) :
    Calls Try.prog 65 #[v] w fun e w' => e = .returned (.int .i64 (k : Nat)) ∧ w' = w := by
  have h := rmany_any (B := B) (v := v) (l := regL r m.n) (w := w) (by rw [regL_length]; have := hm.n1; omega) (fun x hx => by
    obtain ⟨p, hp, rfl⟩ := List.mem_map.1 hx
    have hp := List.mem_range.1 hp
    have := hr.le p hp
    have := hm.n1
    omega) (by rw [regL_length]; exact hv)
  rw [many_reg hm hk] at h
  exact h
/-- what the reference's Out answers -/
def ROuAns (wd : Int) (os : List Int) (i j : Int) (w : World) (e : Ending) (w' : World) : Prop :=
  Below w.heap.size w w' ∧ ((errE wd os ≠ 0 ∧ e = .returned (.int .i64 (errE wd os))) ∨
    (errE wd os = 0 ∧ ∃ (r : Nat → Nat) (k : Nat), IsReg ⟨wd.toNat, os⟩ r ∧ IsMany ⟨wd.toNat, os⟩ r k ∧ ((askE i j k ≠ 0 ∧ e = .returned (.int .i64 2)) ∨
      (askE i j k = 0 ∧ OutW ⟨wd.toNat, os⟩ r i.toNat j.toNat ∧ e = .returned (.int .i64 0)) ∨ (askE i j k = 0 ∧ ¬ OutW ⟨wd.toNat, os⟩ r i.toNat j.toNat ∧ e = .returned (.int .i64 7)))))
end Go.Proofs.Ytkjcnkkmhkcddaa
