/-
  Parts of the proof, in the order in which they build: EvV.
-/
import Derived.Test.YtkjcnkkmhkcddaaA10
import Derived.Test.YtkjcnkkmhkcddaaA24
import Derived.Test.YtkjcnkkmhkcddaaC1
set_option linter.unusedVariables false
set_option linter.unusedSimpArgs false
namespace Go.Proofs.Ytkjcnkkmhkcddaa
open Go.RowKit Go.Shelf
open Lim


/-- the cells of a land in block b -/
structure LdAt (W : World) (b wd : Nat) (ov ev sv : Value) : Prop where
  f0 : W.cell? ⟨b, 0, none⟩ = some (.int .i64 wd)
  f1 : W.cell? ⟨b, 1, none⟩ = some ov
  f2 : W.cell? ⟨b, 2, none⟩ = some ev
  f3 : W.cell? ⟨b, 3, none⟩ = some sv
theorem LdAt.on {W W' : World} {b wd : Nat} {ov ev sv : Value} (h : LdAt W b wd ov ev sv) (hb : Below W.heap.size W W') : LdAt W' b wd ov ev sv := ⟨hb.on h.f0, hb.on h.f1, hb.on h.f2, hb.on h.f3⟩
theorem LdAt.box (w : World) (wd : Nat) (ov ev sv : Value) : LdAt (w.alloc (.cells #[.int .i64 wd, ov, ev, sv] 44)) w.heap.size wd ov ev sv := ⟨by simp [go_sem], by simp [go_sem], by simp [go_sem], by simp [go_sem]⟩
theorem Try.infoLooks : (Try.prog.info? 142).map (·.size) = some 4 := by kernel_rfl
theorem four_range {W : World} {q : Nat} {a b c d : Value} (h0 : W.cell? ⟨q, 0, none⟩ = some a) (h1 : W.cell? ⟨q, 1, none⟩ = some b) (h2 : W.cell? ⟨q, 2, none⟩ = some c) (h3 : W.cell? ⟨q, 3, none⟩ = some d) : W.rangeAt q 0 [a, b, c, d] := fun j v hv => by
  rw [Nat.zero_add]
  match j with
  | 0 => rw [h0]; simpa using hv
  | 1 => rw [h1]; simpa using hv
  | 2 => rw [h2]; simpa using hv
  | 3 => rw [h3]; simpa using hv
  | j + 4 => simp at hv
set_option maxHeartbeats 400000 in
theorem plan_any {wd : Int} {oa : Option Addr} {n oc : Nat} {ev sv : Value} {w : World} :
    Calls Try.prog 84 #[.agg #[.int .i64 wd, .slice oa n oc, ev, sv]] w fun e w' => e = .returned (.agg #[.int .i64 wd, .slice oa n oc]) ∧ Below w.heap.size w w' := by
  have HB : Hid (Below w.heap.size w ((w.alloc (.cells #[.int .i64 wd, .slice oa n oc, ev, sv] 44)).alloc (.cells #[.int .i64 wd, .slice oa n oc] 24))) := Lib.hid (((Below.refl _ w).alloc (Nat.le_refl _) _).alloc (by simp [go_sem]) _)
  go_enter Try.func84, Try.ntmps84
  go_wp2
  refine bodyPost_ret (results_mid (fn := Try.f84) (p := 2) (ty := 24) rfl _ _ (w.heap.size + 1) 0 [.int .i64 wd, .slice oa n oc] _ rfl (two_range (by simp [go_sem]) (by simp [go_sem])) Try.underlying24 rfl Try.infoMap) rfl ?_
  exact ⟨rfl, HB.out⟩
set_option maxHeartbeats 400000 in
theorem ways_any {wd : Int} {ov ev sv : Value} {w : World} :
    Calls Try.prog 98 #[.agg #[.int .i64 wd, ov, ev, sv]] w fun e w' => e = .returned (.agg #[.int .i64 1, .func (.func 104) #[] #[.pointer (some ⟨w.heap.size, 0, none⟩)], .int .i64 wd, .func (.func 105) #[] #[.pointer (some ⟨w.heap.size, 0, none⟩)]]) ∧ Below w.heap.size w w' ∧ (∀ m : Nat, wd = m → LdAt w' w.heap.size m ov ev sv) := by
  go_enter Try.func98, Try.ntmps98
  go_wp2
  refine bodyPost_ret (results_mid (fn := Try.f98) (p := 2) (ty := 142) rfl _ _ (w.heap.size + 1) 0 [.int .i64 1, .func (.func 104) #[] #[.pointer (some ⟨w.heap.size, 0, none⟩)], .int .i64 wd, .func (.func 105) #[] #[.pointer (some ⟨w.heap.size, 0, none⟩)]] _ rfl (four_range (by simp [go_sem]) (by simp [go_sem]) (by simp [go_sem]) (by simp [go_sem])) Try.underlying142 rfl Try.infoLooks) rfl ?_
  exact ⟨rfl, ((Below.refl _ w).alloc (Nat.le_refl _) _).alloc (by simp [go_sem]) _, fun m hm => by subst hm; exact (LdAt.box w m ov ev sv).on ((Below.refl _ _).alloc (Nat.le_refl _) _)⟩
set_option maxHeartbeats 400000 in
theorem east_any {B b wd p : Nat} {ov ev sv : Value} {es : List Int} {w : World} (h : LdAt w b wd ov ev sv) (he : RS B w ev es.length (ints es)) (hp : p < es.length) (hn : es.length ≤ 100) :
    Calls Try.prog 104 #[.int .i64 p, .pointer (some ⟨b, 0, none⟩)] w fun e w' => e = .returned (.int .i64 (es.getD p 0)) ∧ w' = w := by
  obtain ⟨a, c, rfl, hc⟩ := he
  obtain ⟨g, off, rfl, hb, hcell⟩ := hc (ints_ne (by omega))
  have hck : w.cell? ⟨g, off + p, none⟩ = some (.int .i64 (es.getD p 0)) := by
    rw [List.getD_eq_getElem?_getD]; exact hcell p _ (ints_at' es p hp)
  generalize es.getD p 0 = y at *
  obtain ⟨f0, f1, f2, f3⟩ := h
  clear hcell hc
  go_enter Try.func104, Try.ntmps104
  go_wp2
  go_ret
  exact ⟨rfl, rfl⟩
set_option maxHeartbeats 400000 in
theorem south_any {B b wd p : Nat} {ov ev sv : Value} {es : List Int} {w : World} (h : LdAt w b wd ov ev sv) (he : RS B w sv es.length (ints es)) (hp : p < es.length) (hn : es.length ≤ 100) :
    Calls Try.prog 105 #[.int .i64 p, .pointer (some ⟨b, 0, none⟩)] w fun e w' => e = .returned (.int .i64 (es.getD p 0)) ∧ w' = w := by
  obtain ⟨a, c, rfl, hc⟩ := he
  obtain ⟨g, off, rfl, hb, hcell⟩ := hc (ints_ne (by omega))
  have hck : w.cell? ⟨g, off + p, none⟩ = some (.int .i64 (es.getD p 0)) := by
    rw [List.getD_eq_getElem?_getD]; exact hcell p _ (ints_at' es p hp)
  generalize es.getD p 0 = y at *
  obtain ⟨f0, f1, f2, f3⟩ := h
  clear hcell hc
  go_enter Try.func105, Try.ntmps105
  go_wp2
  go_ret
  exact ⟨rfl, rfl⟩
end Go.Proofs.Ytkjcnkkmhkcddaa
