/-
  Parts of the proof, in the order in which they build: LoopG, LoopH, PShelf, Mk, PCl.
-/
import Derived.RangeFuncNested
import Derived.Shelf.Slices.Clone
import Derived.Shelf.Slices.Delete
import Derived.Shelf.Slices.Cells
import Derived.Shelf.Slices.Empties
import Derived.Shelf.SlicesE.Clone
import Derived.Test.YtohjinbgbfggcaaProg
import Derived.Test.YtohjinbgbfggcaaRows
import Derived.OwnWalkIn
import Derived.OwnWalk
import Derived.Maps.AppendAt
import Derived.Laws.AppendOwn
import Derived.Shelf.Abstract
import Derived.WalkKit
import Derived.WalkSpells
import Derived.WalkLawsBesides
import Derived.Test.YtohjinbgbfggcaaA1
set_option linter.unusedVariables false
set_option linter.unusedSimpArgs false
/-
  Loops over an iterator of whatever values in plain words.
-/
namespace Go.Proofs.Ytohjinbgbfggcaa.Lim
open Go Go.RowKit

/-- an iterator's contract: it hands over the numbers xs, in order, to whatever loop keeps C -/
def IterG {β : Type} (P : Program) (gf : Nat) (lb : Array Value) (C : World → Prop) (enc : β → Array Value) (xs : List β) (w : World) : Prop :=
  ∀ n, SeqStopsK (α := { x : β // x ∈ xs }) Fence.wide n P gf lb (fun x => enc x.1) (fun W W' => C W → C W') (fun ys => ys.map (·.1) = xs) (fun pre => pre.map (·.1) <+: xs) (xs.length + 1) w

/-- how a round may be left -/
def roundPostG {β : Type} (B : Nat) (I : List β → World → Prop) (Ix : Code → List β → World → Prop) (xs : List β) (W : World) : Exit → Act → World → Prop
  | .normal, _, W' => KeepsFrom B W W' ∧ I xs W'
  | .ret, _, W' => KeepsFrom B W W' ∧ Ix .ret xs W'
  | .exit id, _, W' => KeepsFrom B W W' ∧ Ix (.exit id) xs W'
  | .goto t, _, W' => KeepsFrom B W W' ∧ Ix (.goto t) xs W'
  | .panic _, _, _ => False
  | .outgrown, _, _ => False

/-- THE LAW FOR THE CALLER. -/
theorem wp_rangeG {β : Type} {P : Program} {g : Operand} {ps : Array Tmp} {assign body : Code} {Q : Exit → Act → World → Prop} {a : Act} {w : World} {gf : Nat} {lb : Array Value} {xs : List β} {enc : β → Array Value}
    (hg : a.eval g = .func (.func gf) #[] lb) (eg : ∀ args w, (callFunc gf args).run P w = .ok (.enter gf args) w) (C : World → Prop) (hit : IterG P gf lb C enc xs w)
    (I : List β → World → Prop) (Ix : Code → List β → World → Prop) (hIC : ∀ s W, I s W → C W) (hC : ∀ W W', C W → Steady w.heap.size W W' → C W')
    (hI : ∀ s W W', I s W → Steady w.heap.size W W' → I s W') (hIx : ∀ c s W W', Ix c s W → Steady w.heap.size W W' → Ix c s W') (h0 : I [] w) (a₁ : β → Act) (hps : ∀ x, (enc x).size = ps.size)
    (hassign : ∀ (l : Nat) (x : β) (W : World) (K : Act → World → Prop), K (a₁ x) W →
      assign.wpIn (Fence.wide.inRound l) 0 P (Exit.then K (fun _ _ _ => False)) { tmps := (ps.zip (enc x)).foldl (fun t (p, v) => t.setIfInBounds p v) a.tmps, defers := [] } W)
    (hbody : ∀ (l : Nat) (pre : List β) (x : β) (W : World), x ∈ xs → pre.length ≤ xs.length → I pre W → body.wpIn (Fence.wide.inRound l) 0 P (roundPostG w.heap.size I Ix (pre ++ [x]) W) (a₁ x) W)
    (hdone : ∀ (D : Nat) (W : World), w.heap.size ≤ D → I xs W → W.heap[D]? = some (.deferred (some [])) → Q .normal { a with defers := markOf D :: a.defers } W)
    (hstop : ∀ (D : Nat) (c : Code) (pre : List β) (W : World), w.heap.size ≤ D → pre <+: xs → Ix c pre W → W.heap[D]? = some (.deferred (some [])) → c.wp P Q { a with defers := markOf D :: a.defers } W) :
    (Code.rangeFunc g ps assign body).wp P Q a w := by
  refine (wpIn_wide (n := 2)).1 ?_
  refine wpIn_rangeFunc_ownG (α := { x : β // x ∈ xs }) rfl (by omega) hg trivial eg (hit (2 - 1)) (fun h k => fun c => k (h c)) ?_ (Below.refl _ _) (fun x => hps x.1)
    (fun s W => I (s.map (·.1)) W) (fun c s W => Ix c (s.map (·.1)) W) ?_ ?_ h0 (fun x => a₁ x.1) ?_ ?_ ?_ ?_
  · intro W l o o' hl hk ho _ hc
    exact hC _ _ hc (.putObj W l o o' hl hk ho)
  · intro s W W' row hs hgr hr
    exact hI _ _ _ hs (.of_grownBy hgr hr)
  · intro c s W W' row hs hgr hr
    exact hIx _ _ _ _ hs (.of_grownBy hgr hr)
  · intro l x W K hK
    have := hassign l x.1 W K hK
    exact this
  · intro l pre x W hi hlen
    refine wpIn_mono (hbody l (pre.map (·.1)) x.1 W x.2 (by rw [List.length_map]; exact Nat.lt_succ_iff.1 hlen) hi) ?_
    intro e a' W' hq
    cases e with
    | normal => exact ⟨hq.1, fun _ => hIC _ _ hq.2, by simpa using hq.2⟩
    | ret => exact ⟨hq.1, by simpa using hq.2⟩
    | exit id => exact ⟨hq.1, by simpa using hq.2⟩
    | goto t => exact ⟨hq.1, by simpa using hq.2⟩
    | panic c => exact hq.elim
    | outgrown => exact hq.elim
  · intro D ys W hD hS hi hk
    have hS : ys.map (·.1) = xs := hS
    have hi : I (ys.map (·.1)) W := hi
    exact hdone D W hD (hS ▸ hi) hk
  · intro D c pre W hD hp hi hk
    exact wpIn_wide.2 (hstop D c _ W hD hp hi hk)

end Go.Proofs.Ytohjinbgbfggcaa.Lim
/-
  Loops over an iterator of whatever values, whose variables may need memory of their own.
-/
namespace Go.Proofs.Ytohjinbgbfggcaa.Lim
open Go Go.RowKit

/-- THE LAW FOR THE CALLER. -/
theorem wp_rangeH {β : Type} {P : Program} {g : Operand} {ps : Array Tmp} {assign body : Code} {Q : Exit → Act → World → Prop} {a : Act} {w : World} {gf : Nat} {lb : Array Value} {xs : List β} {enc : β → Array Value}
    (hg : a.eval g = .func (.func gf) #[] lb) (eg : ∀ args w, (callFunc gf args).run P w = .ok (.enter gf args) w) (C : World → Prop) (hit : IterG P gf lb C enc xs w)
    (I : List β → World → Prop) (Ix : Code → List β → World → Prop) (hIC : ∀ s W, I s W → C W) (hC : ∀ W W', C W → Steady w.heap.size W W' → C W')
    (hI : ∀ s W W', I s W → Steady w.heap.size W W' → I s W') (hIx : ∀ c s W W', Ix c s W → Steady w.heap.size W W' → Ix c s W') (h0 : I [] w) (Ax : β → Act → World → Prop) (hAx : ∀ x a' W W', Ax x a' W → Steady w.heap.size W W' → Ax x a' W') (hps : ∀ x, (enc x).size = ps.size)
    (hassign : ∀ (l : Nat) (pre : List β) (x : β) (W : World) (K : Act → World → Prop), x ∈ xs → I pre W → (∀ a' W', KeepsFrom w.heap.size W W' → I pre W' → Ax x a' W' → K a' W') →
      assign.wpIn (Fence.wide.inRound l) 0 P (Exit.then K (fun _ _ _ => False)) { tmps := (ps.zip (enc x)).foldl (fun t (p, v) => t.setIfInBounds p v) a.tmps, defers := [] } W)
    (hbody : ∀ (l : Nat) (pre : List β) (x : β) (a' : Act) (W : World), x ∈ xs → pre.length ≤ xs.length → I pre W → Ax x a' W → body.wpIn (Fence.wide.inRound l) 0 P (roundPostG w.heap.size I Ix (pre ++ [x]) W) a' W)
    (hdone : ∀ (D : Nat) (W : World), w.heap.size ≤ D → I xs W → W.heap[D]? = some (.deferred (some [])) → Q .normal { a with defers := markOf D :: a.defers } W)
    (hstop : ∀ (D : Nat) (c : Code) (pre : List β) (W : World), w.heap.size ≤ D → pre <+: xs → Ix c pre W → W.heap[D]? = some (.deferred (some [])) → c.wp P Q { a with defers := markOf D :: a.defers } W) :
    (Code.rangeFunc g ps assign body).wp P Q a w := by
  refine (wpIn_wide (n := 2)).1 ?_
  refine wpIn_rangeFunc_ownH (α := { x : β // x ∈ xs }) rfl (by omega) hg trivial eg (hit (2 - 1)) (fun h k => fun c => k (h c)) ?_ (Below.refl _ _) (fun x => hps x.1)
    (fun s W => I (s.map (·.1)) W) (fun c s W => Ix c (s.map (·.1)) W) ?_ ?_ h0 (fun x a' W => Ax x.1 a' W) ?_ ?_ ?_ ?_ ?_
  · intro W l o o' hl hk ho _ hc
    exact hC _ _ hc (.putObj W l o o' hl hk ho)
  · intro s W W' row hs hgr hr
    exact hI _ _ _ hs (.of_grownBy hgr hr)
  · intro c s W W' row hs hgr hr
    exact hIx _ _ _ _ hs (.of_grownBy hgr hr)
  · intro x a' s W W' row hs hgr hr
    exact hAx _ _ _ _ hs (.of_grownBy hgr hr)
  · intro l pre x W K hi hK
    exact hassign l (pre.map (·.1)) x.1 W K x.2 hi (fun a' W' h1 h2 h3 => hK a' W' h1 (fun _ => hIC _ _ h2) h2 h3)
  · intro l pre x a' W _ _ hi hax hlen
    refine wpIn_mono (hbody l (pre.map (·.1)) x.1 a' W x.2 (by rw [List.length_map]; exact Nat.lt_succ_iff.1 hlen) hi hax) ?_
    intro e a'' W' hq
    cases e with
    | normal => exact ⟨hq.1, fun _ => hIC _ _ hq.2, by simpa using hq.2⟩
    | ret => exact ⟨hq.1, by simpa using hq.2⟩
    | exit id => exact ⟨hq.1, by simpa using hq.2⟩
    | goto t => exact ⟨hq.1, by simpa using hq.2⟩
    | panic c => exact hq.elim
    | outgrown => exact hq.elim
  · intro D ys W hD hS hi hk
    have hS : ys.map (·.1) = xs := hS
    have hi : I (ys.map (·.1)) W := hi
    exact hdone D W hD (hS ▸ hi) hk
  · intro D c pre W hD hp hi hk
    exact wpIn_wide.2 (hstop D c _ W hD hp hi hk)

end Go.Proofs.Ytohjinbgbfggcaa.Lim
/-
  Functions of the library over lists of numbers (copy, take out) and the product of two words, laid off the shelf at this program. Written by the kit's tool.
-/
namespace Go.Proofs
open Go.Shelf
def Try.laysNm215_ren : Go.Shelf.Ren := ⟨fun | 15 => 58 | n => n, fun | 22 => 25 | 3 => 3 | 4 => 4 | n => n, fun | n => n⟩
theorem Try.laysNm215 : Go.Proofs.Lays2.n15 Try.prog Try.laysNm215_ren := {
  mixed := by kernel_rfl
  f15 := Try.func58.trans (congrArg some (by kernel_rfl))
  t3 := Try.underlying3
  a3 := Try.isAgg3
  z3 := Try.sizeOf3
  v3 := Try.zeroValue3
  t4 := Try.underlying4
  a4 := Try.isAgg4
  z4 := Try.sizeOf4
  v4 := Try.zeroValue4
  t22 := Try.underlying25
  a22 := Try.isAgg25
  z22 := Try.sizeOf25
  v22 := Try.zeroValue25
  i3 := by kernel_rfl }
open Go.RowKit Go.Lib in
open Go.RowKit Go.Lib in
open Go.RowKit Go.Lib in
theorem Try.slices_Clone_int_zero (a : Addr) (c : Nat) (w : World) :
    Calls Try.prog 58 #[.slice (some a) 0 c] w fun e w' => ∃ v', e = .returned v' ∧ w'.ownsRow w.heap.size 3 1 v' 0 [] ∧ v' ≠ .slice none 0 0 ∧ Below w.heap.size w w' := Any.slices_Clone_int_zero Try.laysNm215 a c w
def Try.laysNm223_ren : Go.Shelf.Ren := ⟨fun | 23 => 86 | n => n, fun | 22 => 25 | 3 => 3 | 4 => 4 | 0 => 0 | n => n, fun | n => n⟩
theorem Try.laysNm223 : Go.Proofs.Lays2.n23 Try.prog Try.laysNm223_ren := {
  mixed := by kernel_rfl
  f23 := Try.func86.trans (congrArg some (by kernel_rfl))
  t0 := Try.underlying0
  a0 := Try.isAgg0
  z0 := Try.sizeOf0
  v0 := Try.zeroValue0
  t3 := Try.underlying3
  a3 := Try.isAgg3
  z3 := Try.sizeOf3
  v3 := Try.zeroValue3
  t4 := Try.underlying4
  a4 := Try.isAgg4
  z4 := Try.sizeOf4
  v4 := Try.zeroValue4
  t22 := Try.underlying25
  a22 := Try.isAgg25
  z22 := Try.sizeOf25
  v22 := Try.zeroValue25
  i3 := by kernel_rfl }
open Go.RowKit Go.Lib Go.Sort in
open Go.RowKit Go.Lib Go.Sort in
theorem Try.slices_Delete_int (blk off cap i j : Nat) (zs : List Int) (w : World) (hH : Holds (Value.int .i64) w blk off zs.toArray) (hcap : zs.length ≤ cap) (hm : cap ≤ 9223372036854775807) (hij : i ≤ j) (hj : j ≤ zs.length) :
    Calls Try.prog 86 #[.slice (some ⟨blk, off, none⟩) zs.length cap, .int .i64 i, .int .i64 j] w fun e w' => e = .returned (.slice (some ⟨blk, off, none⟩) (zs.length - (j - i)) cap) ∧ ∃ q, w' = putRow (Value.int .i64) (Sort.ahead w q) blk off (zs.take i ++ zs.drop j ++ List.replicate (j - i) 0).toArray := Any.slices_Delete_int Try.laysNm223 blk off cap i j zs w hH hcap hm hij hj
open Go.RowKit Go.Lib Go.Sort in
open Go.RowKit Go.Lib in
def Try.laysSlE041_f64_ren : Go.Shelf.Ren := ⟨fun | 41 => 58 | n => n, fun | 22 => 25 | 23 => 3 | 4 => 4 | n => n, fun | n => n⟩
theorem Try.laysSlE041_f64 : Go.Proofs.SlLaysE0.n41 Try.prog Try.laysSlE041_f64_ren := {
  mixed := by kernel_rfl
  f41 := ⟨Try.f58.name, by decide, Try.func58.trans (congrArg some (by kernel_rfl))⟩
  t4 := Try.underlying4
  a4 := Try.isAgg4
  z4 := Try.sizeOf4
  v4 := Try.zeroValue4
  t22 := Try.underlying25
  a22 := Try.isAgg25
  z22 := Try.sizeOf25
  v22 := Try.zeroValue25 }
open Go.RowKit Go.Lib in
theorem Try.slices_Clone (i0 : TypeInfo) (z : Value) (size bytes : Nat) (hi : Try.prog.info? 3 = some i0) (hz0 : i0.zero = some z) (hz1 : i0.size = size) (hz2 : i0.bytes = bytes) (hzs : z.cells.size = size) (hsz : 0 < size) (z23 : ∀ w, (Go.sizeOf 3).run Try.prog w = .ok size w) (b off n c : Nat) (news : List Value) (w : World) (hl : news.length = n * size) (hn : n ≤ maxLen) (hbig : n * bytes ≤ 140737488355328) (hc : ∀ j u, news[j]? = some u → w.cell? ⟨b, off + j, none⟩ = some u) (h1 : ∀ u ∈ news, u.oneCell' = true) :
    Calls Try.prog 58 #[.slice (some ⟨b, off, none⟩) n c] w fun e w' => ∃ v', e = .returned v' ∧ w'.ownsRow w.heap.size 3 size v' n news ∧ v' ≠ .slice none 0 0 ∧ Below w.heap.size w w' := AnyE.slices_Clone Try.laysSlE041_f64 i0 z size bytes hi hz0 hz1 hz2 hzs hsz z23 b off n c news w hl hn hbig hc h1
open Go.RowKit Go.Lib in
theorem Try.slices_Clone_nil (n c : Nat) (w : World) :
    Calls Try.prog 58 #[.slice none n c] w fun e w' => e = .returned (.slice none 0 0) ∧ w' = w := AnyE.slices_Clone_nil Try.laysSlE041_f64 n c w
def Try.laysSlE041_f103_ren : Go.Shelf.Ren := ⟨fun | 41 => 82 | n => n, fun | 22 => 26 | 23 => 28 | 4 => 4 | n => n, fun | n => n⟩
theorem Try.laysSlE041_f103 : Go.Proofs.SlLaysE0.n41 Try.prog Try.laysSlE041_f103_ren := {
  mixed := by kernel_rfl
  f41 := ⟨Try.f82.name, by decide, Try.func82.trans (congrArg some (by kernel_rfl))⟩
  t4 := Try.underlying4
  a4 := Try.isAgg4
  z4 := Try.sizeOf4
  v4 := Try.zeroValue4
  t22 := Try.underlying26
  a22 := Try.isAgg26
  z22 := Try.sizeOf26
  v22 := Try.zeroValue26 }
open Go.RowKit Go.Lib in
theorem Try.slices_CloneS (i0 : TypeInfo) (z : Value) (size bytes : Nat) (hi : Try.prog.info? 28 = some i0) (hz0 : i0.zero = some z) (hz1 : i0.size = size) (hz2 : i0.bytes = bytes) (hzs : z.cells.size = size) (hsz : 0 < size) (z23 : ∀ w, (Go.sizeOf 28).run Try.prog w = .ok size w) (b off n c : Nat) (news : List Value) (w : World) (hl : news.length = n * size) (hn : n ≤ maxLen) (hbig : n * bytes ≤ 140737488355328) (hc : ∀ j u, news[j]? = some u → w.cell? ⟨b, off + j, none⟩ = some u) (h1 : ∀ u ∈ news, u.oneCell' = true) :
    Calls Try.prog 82 #[.slice (some ⟨b, off, none⟩) n c] w fun e w' => ∃ v', e = .returned v' ∧ w'.ownsRow w.heap.size 28 size v' n news ∧ v' ≠ .slice none 0 0 ∧ Below w.heap.size w w' := AnyE.slices_Clone Try.laysSlE041_f103 i0 z size bytes hi hz0 hz1 hz2 hzs hsz z23 b off n c news w hl hn hbig hc h1
open Go.RowKit Go.Lib in
theorem Try.slices_CloneS_nil (n c : Nat) (w : World) :
    Calls Try.prog 82 #[.slice none n c] w fun e w' => e = .returned (.slice none 0 0) ∧ w' = w := AnyE.slices_Clone_nil Try.laysSlE041_f103 n c w
end Go.Proofs
/-
  The marks that loops over an iterator leave on an activation, while other memory is written.
-/
namespace Go.Proofs.Ytohjinbgbfggcaa
open Go.RowKit Go.Shelf
open Lim

theorem keeps_of_below {w w' : World} (h : Below w.heap.size w w') : KeepsOthers w w' :=
  ⟨h.size, fun k _ hk _ => (h.block k (Array.getElem?_eq_some_iff.1 hk).1).trans hk⟩
/-- marks that all lie below B -/
def MarksLt (S B : Nat) (ds : List Deferred) (w : World) : Prop := ∃ Ds : List Nat, ds = Ds.map markOf ∧ Ds.Nodup ∧ ∀ D ∈ Ds, S ≤ D ∧ D < B ∧ w.heap[D]? = some (.deferred (some []))
theorem MarksLt.of_marks {S : Nat} {ds : List Deferred} {w : World} (h : Marks S ds w) : MarksLt S w.heap.size ds w := by
  obtain ⟨Ds, h1, h2, h3⟩ := h
  exact ⟨Ds, h1, h2, fun D hD => ⟨(h3 D hD).1, (Array.getElem?_eq_some_iff.1 (h3 D hD).2).1, (h3 D hD).2⟩⟩
theorem MarksLt.steady {S B : Nat} {ds : List Deferred} {w w' : World} (h : MarksLt S B ds w) (hs : Steady B w w') : MarksLt S B ds w' := by
  obtain ⟨Ds, h1, h2, h3⟩ := h
  exact ⟨Ds, h1, h2, fun D hD => ⟨(h3 D hD).1, (h3 D hD).2.1, hs.same D _ (h3 D hD).2.2 (.inl (h3 D hD).2.1)⟩⟩
theorem MarksLt.keeps {S B : Nat} {ds : List Deferred} {w w' : World} (h : MarksLt S B ds w) (hs : KeepsOthers w w') : MarksLt S B ds w' := by
  obtain ⟨Ds, h1, h2, h3⟩ := h
  exact ⟨Ds, h1, h2, fun D hD => ⟨(h3 D hD).1, (h3 D hD).2.1, hs.same D _ (h3 D hD).2.2 rfl⟩⟩
theorem Lim.Marks.keep {S : Nat} {ds : List Deferred} {w w' : World} (h : Marks S ds w) (hs : KeepsOthers w w') : Marks S ds w' := by
  obtain ⟨Ds, h1, h2, h3⟩ := h
  exact ⟨Ds, h1, h2, fun D hD => ⟨(h3 D hD).1, hs.same D _ (h3 D hD).2 rfl⟩⟩
theorem MarksLt.cons {S B : Nat} {ds : List Deferred} {w : World} (h : MarksLt S B ds w) (hB : S ≤ B) {D : Nat} (hD : B ≤ D) (hk : w.heap[D]? = some (.deferred (some []))) : Marks S (markOf D :: ds) w := by
  obtain ⟨Ds, h1, h2, h3⟩ := h
  refine ⟨D :: Ds, by simp [h1], List.nodup_cons.2 ⟨fun hm => by have := (h3 D hm).2.1; omega, h2⟩, fun E hE => ?_⟩
  rcases List.mem_cons.1 hE with rfl | hE
  · exact ⟨by omega, hk⟩
  · exact ⟨(h3 E hE).1, (h3 E hE).2.2⟩

theorem MarksLt.grown {S B' : Nat} {ds : List Deferred} {w w' : World} {row : Option Nat} (h : MarksLt S B' ds w) (hg : w.grownBy w' row) (hr : ∀ r, row = some r → r < S) : MarksLt S B' ds w' := by
  obtain ⟨Ds, h1, h2, h3⟩ := h
  refine ⟨Ds, h1, h2, fun D hD => ⟨(h3 D hD).1, (h3 D hD).2.1, (hg.block D (Array.getElem?_eq_some_iff.1 (h3 D hD).2.2).1 (fun e => ?_)).trans (h3 D hD).2.2⟩⟩
  have := hr D e.symm
  have := (h3 D hD).1
  omega
theorem keeps_of_row {w w1 : World} {base e size : Nat} {v : Value} {n : Nat} {xs : List Value} (h : w.ownsRow base e size v n xs) (hg : w.grownBy w1 v.ownBlock) : KeepsOthers w w1 := by
  refine .of_grownBy hg (fun j o hj ho => ?_)
  rcases h.2 with ⟨rfl, _⟩ | ⟨g, cap, cur, rfl, hb, hgg, _⟩
  · simp [Value.ownBlock] at hj
  · simp [Value.ownBlock] at hj
    subst hj
    rw [hgg] at ho; cases ho; rfl
theorem results_one {P : Program} {fn : Func} {p : Tmp} (h : fn.results = #[.tmp p]) (tmps : Array Value) (w : World) {v : Value} (hv : tmps.getD p undef = v) : (results fn tmps).run P w = .ok v w := by
  subst hv
  simp [results, h]
theorem Try.infoInt : (Try.prog.info? 3).map (fun i => (i.zero, i.size, i.bytes)) = some (some (.int .i64 0), 1, 8) := by kernel_rfl
def noPanic (Q : Exit → Act → World → Prop) : Exit → Act → World → Prop
  | .panic _, _, _ => False
  | e, a, w => Q e a w
theorem wp_noPanic {P : Program} {c : Code} {Q : Exit → Act → World → Prop} {a : Act} {w : World} (h : c.wp P (noPanic Q) a w) : c.wp P Q a w := by
  refine wp_mono h ?_
  intro e a w h
  cases e <;> first | exact h | exact h.elim
end Go.Proofs.Ytohjinbgbfggcaa
/-
  slices.Clone over lists of numbers and of spans, in plain words.
-/
namespace Go.Proofs.Ytohjinbgbfggcaa
open Go.RowKit Go.Shelf
open Lim

theorem Try.infoSpan : (Try.prog.info? 28).map (fun i => (i.zero, i.size, i.bytes)) = some (some (.agg #[.int .i64 0, .int .i64 0]), 2, 16) := by kernel_rfl
theorem sizeSpan (w : World) : (Go.sizeOf 28).run Try.prog w = .ok 2 w := Try.sizeOf28 w
theorem sizeInt (w : World) : (Go.sizeOf 3).run Try.prog w = .ok 1 w := Try.sizeOf3 w
theorem ownsRow_zero (w : World) (B : Nat) (e size : Nat) : w.ownsRow B e size (.slice none 0 0) 0 [] := ⟨by simp, .inl ⟨rfl, rfl⟩⟩
theorem ints_one : ∀ (xs : List Int), ∀ u ∈ ints xs, u.oneCell' = true := fun xs u hu => by
  unfold ints at hu
  obtain ⟨x, -, rfl⟩ := List.mem_map.1 hu
  rfl
theorem spans_one : ∀ (xs : List (Int × Int)), ∀ u ∈ spans xs, u.oneCell' = true
  | [], u, hu => by cases hu
  | s :: xs, u, hu => by
    rcases List.mem_cons.1 hu with rfl | hu
    · rfl
    rcases List.mem_cons.1 hu with rfl | hu
    · rfl
    · exact spans_one xs u hu
theorem spans_append : ∀ a b : List (Int × Int), spans (a ++ b) = spans a ++ spans b
  | [], _ => rfl
  | s :: a, b => by rw [List.cons_append]; show _ :: _ :: spans (a ++ b) = _ :: _ :: (spans a ++ spans b); rw [spans_append a b]
theorem owns_setCellB {w : World} {base e size : Nat} {v : Value} {n : Nat} {xs : List Value} (h : w.ownsRow base e size v n xs) {p j : Nat} (u : Value) (hp : p < base) : (w.setCell ⟨p, j, none⟩ u).ownsRow base e size v n xs := by
  refine ⟨h.1, ?_⟩
  rcases h.2 with hn | ⟨g, cap, cur, hv, hB, hg, r⟩
  · exact .inl hn
  · exact .inr ⟨g, cap, cur, hv, hB, (Below.heap_setCell w ⟨p, j, none⟩ u g (by show g ≠ p; omega)).trans hg, r⟩
/-- a slice of the first n of a list -/
theorem clone_ints {B : Nat} {w : World} {b off n c : Nat} {xs : List Int} (hn : n ≤ xs.length) (h4 : n ≤ 90000) (hc : ∀ j u, (ints xs)[j]? = some u → w.cell? ⟨b, off + j, none⟩ = some u) (_hB : B ≤ w.heap.size) :
    Calls Try.prog 58 #[.slice (some ⟨b, off, none⟩) n c] w fun e w' => ∃ v', e = .returned v' ∧ w'.ownsRow w.heap.size 3 1 v' n (ints (xs.take n)) ∧ v' ≠ .slice none 0 0 ∧ Below w.heap.size w w' := by
  obtain ⟨i0, hi, hz0, hz1, hz2⟩ := info_parts Try.infoInt
  refine Try.slices_Clone i0 (.int .i64 0) 1 8 hi hz0 hz1 hz2 rfl (by decide) sizeInt b off n c (ints (xs.take n)) w (by unfold ints; simp; omega) (by unfold maxLen; omega) (by omega) (fun j u hj => hc j u ?_) (ints_one _)
  unfold ints at hj ⊢
  rw [List.map_take] at hj
  rw [List.getElem?_take] at hj
  split at hj
  · exact hj
  · cases hj
theorem clone_any_int {B n : Nat} {v : Value} {xs : List Int} {w : World} (hB : B ≤ w.heap.size) (hv : RS B w v n (ints xs)) (hn : n = xs.length) (h4 : n ≤ 90000) :
    Calls Try.prog 58 #[v] w fun e w' => ∃ v', e = .returned v' ∧ w'.ownsRow w.heap.size 3 1 v' n (ints xs) ∧ Below w.heap.size w w' := by
  obtain ⟨a, c, rfl, ha⟩ := hv
  subst hn
  cases a with
  | none =>
    refine (Try.slices_Clone_nil _ _ w).mono ?_
    rintro e w' ⟨rfl, rfl⟩
    have hx : xs = [] := by
      cases xs with
      | nil => rfl
      | cons x xs => obtain ⟨g, o, h, -⟩ := ha (by simp [ints]); cases h
    subst hx
    exact ⟨_, rfl, ownsRow_zero _ _ _ _, Below.refl _ _⟩
  | some ad =>
    by_cases hx : xs = []
    · subst hx
      refine (Try.slices_Clone_int_zero ad c w).mono ?_
      rintro e w' ⟨v', rfl, h1, -, h2⟩
      exact ⟨v', rfl, h1, h2⟩
    · obtain ⟨g, o, h, hg, hc⟩ := ha (by intro h; apply hx; cases xs with
        | nil => rfl
        | cons => simp [ints] at h)
      cases h
      refine (clone_ints (B := B) (xs := xs) (Nat.le_refl _) h4 hc hB).mono ?_
      rintro e w' ⟨v', rfl, h1, -, h2⟩
      rw [List.take_length] at h1
      exact ⟨v', rfl, h1, h2⟩
theorem clone_any_span {B n : Nat} {v : Value} {xs : List (Int × Int)} {w : World} (_hB : B ≤ w.heap.size) (hv : RS B w v n (spans xs)) (hn : n = xs.length) (h4 : n ≤ 90000) (h0 : 0 < n) :
    Calls Try.prog 82 #[v] w fun e w' => ∃ v', e = .returned v' ∧ w'.ownsRow w.heap.size 28 2 v' n (spans xs) ∧ Below w.heap.size w w' := by
  obtain ⟨a, c, rfl, ha⟩ := hv
  subst hn
  obtain ⟨i0, hi, hz0, hz1, hz2⟩ := info_parts Try.infoSpan
  obtain ⟨g, o, rfl, hg, hc⟩ := ha (by intro h; have := congrArg List.length h; rw [spans_length, List.length_nil] at this; omega)
  refine (Try.slices_CloneS i0 (.agg #[.int .i64 0, .int .i64 0]) 2 16 hi hz0 hz1 hz2 rfl (by decide) sizeSpan g o xs.length c (spans xs) w (by first | (rw [spans_length]; done) | (rw [spans_length]; omega)) (by unfold maxLen; omega) (by omega) hc (spans_one _)).mono ?_
  rintro e w' ⟨v', rfl, h1, -, h2⟩
  exact ⟨v', rfl, h1, h2⟩
end Go.Proofs.Ytohjinbgbfggcaa
