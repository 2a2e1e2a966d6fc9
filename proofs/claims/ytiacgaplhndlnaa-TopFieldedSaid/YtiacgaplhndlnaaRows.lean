/-
  No cell of these rows narrows 'for every input' (looked for: loops, veiled, ifaces, maps, wideKeys, modest, calm, conditions, laid).
  DERIVED. THE GIVEN ROWS OF THIS SEAT. 4 by the template 'for every input the law returns true; each argument reads behind the call as it read before'; 0 by the template 'total and deterministic' (their statements: YtiacgaplhndlnaaTotals.lean).
  GIVEN WITH THE SEED: the statements are not yours to turn. If you find one false, say at which input.
  Laid BY PROGRAM, IN A SANDBOX (cutbox-rows.mjs): the forced cells as the released guide's own fill.sh prints them over the translation 51e5bd42b6a1cfe0… (all of the seat's roots in one cut). By AI agents, Wed Nov 11 2026. No macro, syntax, notation, axiom, sorry.
-/
import Derived.Test.YtiacgaplhndlnaaChecked
import GoSem.Claim
import GoSem.ClaimJoined
import GoSem.ClaimMapViews
import Derived.JoinedTies
import Derived.KernelRfl
namespace Go.Proofs.Ytiacgaplhndlnaa
/- THE CELL 'sum', in the pinned program and in every row, IS THE sha256 OF THE DUMP (.gsa) THAT YtiacgaplhndlnaaProg.lean LOADS. Nothing in Lean hashes anything: it is a label: what it is worth is what the hold of that sum in a sandbox is worth. -/
noncomputable def Try.pinned : Pinned := { name := "ytiacgaplhndlnaa", sum := "51e5bd42b6a1cfe085bd9b2222b9637d210e668d222e328cc4937016195d5e23", checked := Try.checked }
namespace Rows
def none {H : Type} : Left H := { results := [], args := [] }

/-- 'limitrophetop.TopNested': WHATEVER THE INPUT: true; the input reads as it did. -/
def topNestedSpec : ChangeSpec := { name := "topNested", fn := fun _ => fun
  | [d] => { results := [.lit (.bool true)], args := [d] }
  | _ => none }
def topNestedRow : OpenClaim := { program := "ytiacgaplhndlnaa", sum := "51e5bd42b6a1cfe085bd9b2222b9637d210e668d222e328cc4937016195d5e23", func := "limitrophe/limitrophetop.TopNested", spec := "topNested", unfollowed := true, recurses := true, plainKeys := false, apart := false }
def TopNestedSaid : Prop := topNestedRow.holds Try.pinned (OpenSpec.ofChange topNestedSpec)

/-- ITS FALSE NEIGHBOUR: 'it returns false'. Refute it at one input. -/
def topNestedWrong : ChangeSpec := { name := "topNested", fn := fun _ => fun
  | [d] => { results := [.lit (.bool false)], args := [d] }
  | _ => none }
def TopNestedWrongFalsely : Prop := topNestedRow.holds Try.pinned (OpenSpec.ofChange topNestedWrong)

/-- 'limitrophetop.TopBeacons': WHATEVER THE INPUT: true; the input reads as it did. -/
def topBeaconsSpec : ChangeSpec := { name := "topBeacons", fn := fun _ => fun
  | [d] => { results := [.lit (.bool true)], args := [d] }
  | _ => none }
def topBeaconsRow : OpenClaim := { program := "ytiacgaplhndlnaa", sum := "51e5bd42b6a1cfe085bd9b2222b9637d210e668d222e328cc4937016195d5e23", func := "limitrophe/limitrophetop.TopBeacons", spec := "topBeacons", unfollowed := true, recurses := true, plainKeys := false, apart := false }
def TopBeaconsSaid : Prop := topBeaconsRow.holds Try.pinned (OpenSpec.ofChange topBeaconsSpec)

/-- ITS FALSE NEIGHBOUR: 'it returns false'. Refute it at one input. -/
def topBeaconsWrong : ChangeSpec := { name := "topBeacons", fn := fun _ => fun
  | [d] => { results := [.lit (.bool false)], args := [d] }
  | _ => none }
def TopBeaconsWrongFalsely : Prop := topBeaconsRow.holds Try.pinned (OpenSpec.ofChange topBeaconsWrong)

/-- 'limitrophetop.TopFielded': WHATEVER THE INPUT: true; the input reads as it did. -/
def topFieldedSpec : ChangeSpec := { name := "topFielded", fn := fun _ => fun
  | [d1, d2] => { results := [.lit (.bool true)], args := [d1, d2] }
  | _ => none }
def topFieldedRow : OpenClaim := { program := "ytiacgaplhndlnaa", sum := "51e5bd42b6a1cfe085bd9b2222b9637d210e668d222e328cc4937016195d5e23", func := "limitrophe/limitrophetop.TopFielded", spec := "topFielded", unfollowed := true, recurses := true, plainKeys := false, apart := false }
def TopFieldedSaid : Prop := topFieldedRow.holds Try.pinned (OpenSpec.ofChange topFieldedSpec)

/-- ITS FALSE NEIGHBOUR: 'it returns false'. Refute it at one input. -/
def topFieldedWrong : ChangeSpec := { name := "topFielded", fn := fun _ => fun
  | [d1, d2] => { results := [.lit (.bool false)], args := [d1, d2] }
  | _ => none }
def TopFieldedWrongFalsely : Prop := topFieldedRow.holds Try.pinned (OpenSpec.ofChange topFieldedWrong)

/-- 'limitrophetop.TopDecided': WHATEVER THE INPUT: true; the input reads as it did. -/
def topDecidedSpec : ChangeSpec := { name := "topDecided", fn := fun _ => fun
  | [d1, d2] => { results := [.lit (.bool true)], args := [d1, d2] }
  | _ => none }
def topDecidedRow : OpenClaim := { program := "ytiacgaplhndlnaa", sum := "51e5bd42b6a1cfe085bd9b2222b9637d210e668d222e328cc4937016195d5e23", func := "limitrophe/limitrophetop.TopDecided", spec := "topDecided", unfollowed := true, recurses := true, plainKeys := false, apart := false }
def TopDecidedSaid : Prop := topDecidedRow.holds Try.pinned (OpenSpec.ofChange topDecidedSpec)

/-- ITS FALSE NEIGHBOUR: 'it returns false'. Refute it at one input. -/
def topDecidedWrong : ChangeSpec := { name := "topDecided", fn := fun _ => fun
  | [d1, d2] => { results := [.lit (.bool false)], args := [d1, d2] }
  | _ => none }
def TopDecidedWrongFalsely : Prop := topDecidedRow.holds Try.pinned (OpenSpec.ofChange topDecidedWrong)

/- THE SECOND FORM. 'bulk': how many values and letters a reading holds, each counted each time it is reached (what is shared counts as often as it is met; a slice's spare places count too). A statement '..UptoSaid' is the law's where the arguments, and the package variables that the reading takes, are together of bulk at most 1048576: NARROWER than '..Said'. Prove '..Said' where nothing that the law and all that it calls make is longer than what came in: it says more and counts as full. Else prove '..UptoSaid'. A law counts once. -/
mutual
def uptoBulk {H : Type} : DataW H → Nat
  | .lit (.string bytes) => bytes.length + 1
  | .lit _ => 1
  | .nil => 1
  | .ptr d => uptoBulk d + 1
  | .slice elems spare => uptoBulkAll elems + uptoBulkAll spare + 1
  | .agg parts => uptoBulkAll parts + 1
  | .iface _ d => uptoBulk d + 1
  | .map entries => uptoBulkEntries entries + 1
  | .held _ => 1
def uptoBulkAll {H : Type} : List (DataW H) → Nat
  | [] => 0
  | d :: r => uptoBulk d + uptoBulkAll r
def uptoBulkEntries {H : Type} : List (Lit × DataW H) → Nat
  | [] => 0
  | x :: r => uptoBulkEntry x + uptoBulkEntries r
def uptoBulkEntry {H : Type} : Lit × DataW H → Nat
  | (.string bytes, d) => bytes.length + uptoBulk d + 1
  | (_, d) => uptoBulk d + 1
 end
def uptoSmall : (H : Type) → List (DataW H) → Bool := fun _ ds => decide (uptoBulkAll ds ≤ 1048576)
def OpenSpec.upto (s : _root_.Go.ChangeSpec) : _root_.Go.OpenSpec := { _root_.Go.OpenSpec.ofChange s with cond := some uptoSmall }

/-- 'limitrophetop.TopNested', WHERE WHAT IT READS IS OF BULK AT MOST 1048576: true; the input reads as it did. -/
def topNestedUptoRow : OpenClaim := { program := "ytiacgaplhndlnaa", sum := "51e5bd42b6a1cfe085bd9b2222b9637d210e668d222e328cc4937016195d5e23", func := "limitrophe/limitrophetop.TopNested", spec := "topNested", unfollowed := true, recurses := true, plainKeys := false, apart := false, narrowed := true }
def TopNestedUptoSaid : Prop := topNestedUptoRow.holds Try.pinned (OpenSpec.upto topNestedSpec)

/-- 'limitrophetop.TopBeacons', WHERE WHAT IT READS IS OF BULK AT MOST 1048576: true; the input reads as it did. -/
def topBeaconsUptoRow : OpenClaim := { program := "ytiacgaplhndlnaa", sum := "51e5bd42b6a1cfe085bd9b2222b9637d210e668d222e328cc4937016195d5e23", func := "limitrophe/limitrophetop.TopBeacons", spec := "topBeacons", unfollowed := true, recurses := true, plainKeys := false, apart := false, narrowed := true }
def TopBeaconsUptoSaid : Prop := topBeaconsUptoRow.holds Try.pinned (OpenSpec.upto topBeaconsSpec)

/-- 'limitrophetop.TopFielded', WHERE WHAT IT READS IS OF BULK AT MOST 1048576: true; the input reads as it did. -/
def topFieldedUptoRow : OpenClaim := { program := "ytiacgaplhndlnaa", sum := "51e5bd42b6a1cfe085bd9b2222b9637d210e668d222e328cc4937016195d5e23", func := "limitrophe/limitrophetop.TopFielded", spec := "topFielded", unfollowed := true, recurses := true, plainKeys := false, apart := false, narrowed := true }
def TopFieldedUptoSaid : Prop := topFieldedUptoRow.holds Try.pinned (OpenSpec.upto topFieldedSpec)

/-- 'limitrophetop.TopDecided', WHERE WHAT IT READS IS OF BULK AT MOST 1048576: true; the input reads as it did. -/
def topDecidedUptoRow : OpenClaim := { program := "ytiacgaplhndlnaa", sum := "51e5bd42b6a1cfe085bd9b2222b9637d210e668d222e328cc4937016195d5e23", func := "limitrophe/limitrophetop.TopDecided", spec := "topDecided", unfollowed := true, recurses := true, plainKeys := false, apart := false, narrowed := true }
def TopDecidedUptoSaid : Prop := topDecidedUptoRow.holds Try.pinned (OpenSpec.upto topDecidedSpec)

end Rows
end Go.Proofs.Ytiacgaplhndlnaa
