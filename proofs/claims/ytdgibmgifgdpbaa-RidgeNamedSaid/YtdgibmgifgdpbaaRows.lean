/-
  No cell of these rows narrows 'for every input' (looked for: loops, veiled, ifaces, maps, wideKeys, modest, calm, conditions, laid).
  DERIVED. THE GIVEN ROWS OF THIS SEAT. 10 by the template 'for every input the law returns true; each argument reads behind the call as it read before'; 0 by the template 'total and deterministic' (their statements: YtdgibmgifgdpbaaTotals.lean).
  GIVEN WITH THE SEED: the statements are not yours to turn. If you find one false, say at which input.
  Laid BY PROGRAM, IN A SANDBOX (cutbox-rows.mjs): the forced cells as the released guide's own fill.sh prints them over the translation c96c4a7daea8dc21… (all of the seat's roots in one cut). By AI agents, Wed Nov 11 2026. No macro, syntax, notation, axiom, sorry.
-/
import Derived.Test.YtdgibmgifgdpbaaChecked
import GoSem.Claim
import GoSem.ClaimJoined
import GoSem.ClaimMapViews
import Derived.JoinedTies
import Derived.KernelRfl
namespace Go.Proofs.Ytdgibmgifgdpbaa
/- THE CELL 'sum', in the pinned program and in every row, IS THE sha256 OF THE DUMP (.gsa) THAT YtdgibmgifgdpbaaProg.lean LOADS. Nothing in Lean hashes anything: it is a label: what it is worth is what the hold of that sum in a sandbox is worth. -/
noncomputable def Try.pinned : Pinned := { name := "ytdgibmgifgdpbaa", sum := "c96c4a7daea8dc2105623d6bc93a48ec02ad805d5882d25ef6ac33450e3b745e", checked := Try.checked }
namespace Rows
def none {H : Type} : Left H := { results := [], args := [] }

/-- 'limitrophelaw04.RidgeSides': WHATEVER THE INPUT: true; the input reads as it did. -/
def ridgeSidesSpec : ChangeSpec := { name := "ridgeSides", fn := fun _ => fun
  | [d] => { results := [.lit (.bool true)], args := [d] }
  | _ => none }
def ridgeSidesRow : OpenClaim := { program := "ytdgibmgifgdpbaa", sum := "c96c4a7daea8dc2105623d6bc93a48ec02ad805d5882d25ef6ac33450e3b745e", func := "limitrophe/limitrophelaw04.RidgeSides", spec := "ridgeSides", unfollowed := true, recurses := true, apart := false }
def RidgeSidesSaid : Prop := ridgeSidesRow.holds Try.pinned (OpenSpec.ofChange ridgeSidesSpec)

/-- ITS FALSE NEIGHBOUR: 'it returns false'. Refute it at one input. -/
def ridgeSidesWrong : ChangeSpec := { name := "ridgeSides", fn := fun _ => fun
  | [d] => { results := [.lit (.bool false)], args := [d] }
  | _ => none }
def RidgeSidesWrongFalsely : Prop := ridgeSidesRow.holds Try.pinned (OpenSpec.ofChange ridgeSidesWrong)

/-- 'limitrophelaw04.RidgeTurned': WHATEVER THE INPUT: true; the input reads as it did. -/
def ridgeTurnedSpec : ChangeSpec := { name := "ridgeTurned", fn := fun _ => fun
  | [d] => { results := [.lit (.bool true)], args := [d] }
  | _ => none }
def ridgeTurnedRow : OpenClaim := { program := "ytdgibmgifgdpbaa", sum := "c96c4a7daea8dc2105623d6bc93a48ec02ad805d5882d25ef6ac33450e3b745e", func := "limitrophe/limitrophelaw04.RidgeTurned", spec := "ridgeTurned", unfollowed := true, recurses := true, apart := false }
def RidgeTurnedSaid : Prop := ridgeTurnedRow.holds Try.pinned (OpenSpec.ofChange ridgeTurnedSpec)

/-- ITS FALSE NEIGHBOUR: 'it returns false'. Refute it at one input. -/
def ridgeTurnedWrong : ChangeSpec := { name := "ridgeTurned", fn := fun _ => fun
  | [d] => { results := [.lit (.bool false)], args := [d] }
  | _ => none }
def RidgeTurnedWrongFalsely : Prop := ridgeTurnedRow.holds Try.pinned (OpenSpec.ofChange ridgeTurnedWrong)

/-- 'limitrophelaw04.RidgeRaised': WHATEVER THE INPUT: true; the input reads as it did. -/
def ridgeRaisedSpec : ChangeSpec := { name := "ridgeRaised", fn := fun _ => fun
  | [d1, d2, d3] => { results := [.lit (.bool true)], args := [d1, d2, d3] }
  | _ => none }
def ridgeRaisedRow : OpenClaim := { program := "ytdgibmgifgdpbaa", sum := "c96c4a7daea8dc2105623d6bc93a48ec02ad805d5882d25ef6ac33450e3b745e", func := "limitrophe/limitrophelaw04.RidgeRaised", spec := "ridgeRaised", unfollowed := true, recurses := true, apart := false }
def RidgeRaisedSaid : Prop := ridgeRaisedRow.holds Try.pinned (OpenSpec.ofChange ridgeRaisedSpec)

/-- ITS FALSE NEIGHBOUR: 'it returns false'. Refute it at one input. -/
def ridgeRaisedWrong : ChangeSpec := { name := "ridgeRaised", fn := fun _ => fun
  | [d1, d2, d3] => { results := [.lit (.bool false)], args := [d1, d2, d3] }
  | _ => none }
def RidgeRaisedWrongFalsely : Prop := ridgeRaisedRow.holds Try.pinned (OpenSpec.ofChange ridgeRaisedWrong)

/-- 'limitrophelaw04.RidgeSure': WHATEVER THE INPUT: true; the input reads as it did. -/
def ridgeSureSpec : ChangeSpec := { name := "ridgeSure", fn := fun _ => fun
  | [d1, d2] => { results := [.lit (.bool true)], args := [d1, d2] }
  | _ => none }
def ridgeSureRow : OpenClaim := { program := "ytdgibmgifgdpbaa", sum := "c96c4a7daea8dc2105623d6bc93a48ec02ad805d5882d25ef6ac33450e3b745e", func := "limitrophe/limitrophelaw04.RidgeSure", spec := "ridgeSure", unfollowed := true, recurses := true, apart := false }
def RidgeSureSaid : Prop := ridgeSureRow.holds Try.pinned (OpenSpec.ofChange ridgeSureSpec)

/-- ITS FALSE NEIGHBOUR: 'it returns false'. Refute it at one input. -/
def ridgeSureWrong : ChangeSpec := { name := "ridgeSure", fn := fun _ => fun
  | [d1, d2] => { results := [.lit (.bool false)], args := [d1, d2] }
  | _ => none }
def RidgeSureWrongFalsely : Prop := ridgeSureRow.holds Try.pinned (OpenSpec.ofChange ridgeSureWrong)

/-- 'limitrophelaw04.RidgeNamed': WHATEVER THE INPUT: true; the input reads as it did. -/
def ridgeNamedSpec : ChangeSpec := { name := "ridgeNamed", fn := fun _ => fun
  | [d1, d2] => { results := [.lit (.bool true)], args := [d1, d2] }
  | _ => none }
def ridgeNamedRow : OpenClaim := { program := "ytdgibmgifgdpbaa", sum := "c96c4a7daea8dc2105623d6bc93a48ec02ad805d5882d25ef6ac33450e3b745e", func := "limitrophe/limitrophelaw04.RidgeNamed", spec := "ridgeNamed", unfollowed := true, recurses := true, apart := false }
def RidgeNamedSaid : Prop := ridgeNamedRow.holds Try.pinned (OpenSpec.ofChange ridgeNamedSpec)

/-- ITS FALSE NEIGHBOUR: 'it returns false'. Refute it at one input. -/
def ridgeNamedWrong : ChangeSpec := { name := "ridgeNamed", fn := fun _ => fun
  | [d1, d2] => { results := [.lit (.bool false)], args := [d1, d2] }
  | _ => none }
def RidgeNamedWrongFalsely : Prop := ridgeNamedRow.holds Try.pinned (OpenSpec.ofChange ridgeNamedWrong)

/-- 'limitrophelaw04.RidgeNarrow': WHATEVER THE INPUT: true; the input reads as it did. -/
def ridgeNarrowSpec : ChangeSpec := { name := "ridgeNarrow", fn := fun _ => fun
  | [d1, d2] => { results := [.lit (.bool true)], args := [d1, d2] }
  | _ => none }
def ridgeNarrowRow : OpenClaim := { program := "ytdgibmgifgdpbaa", sum := "c96c4a7daea8dc2105623d6bc93a48ec02ad805d5882d25ef6ac33450e3b745e", func := "limitrophe/limitrophelaw04.RidgeNarrow", spec := "ridgeNarrow", unfollowed := true, recurses := true, apart := false }
def RidgeNarrowSaid : Prop := ridgeNarrowRow.holds Try.pinned (OpenSpec.ofChange ridgeNarrowSpec)

/-- ITS FALSE NEIGHBOUR: 'it returns false'. Refute it at one input. -/
def ridgeNarrowWrong : ChangeSpec := { name := "ridgeNarrow", fn := fun _ => fun
  | [d1, d2] => { results := [.lit (.bool false)], args := [d1, d2] }
  | _ => none }
def RidgeNarrowWrongFalsely : Prop := ridgeNarrowRow.holds Try.pinned (OpenSpec.ofChange ridgeNarrowWrong)

/-- 'limitrophelaw04.RidgeGrounds': WHATEVER THE INPUT: true; the input reads as it did. -/
def ridgeGroundsSpec : ChangeSpec := { name := "ridgeGrounds", fn := fun _ => fun
  | [d1, d2, d3] => { results := [.lit (.bool true)], args := [d1, d2, d3] }
  | _ => none }
def ridgeGroundsRow : OpenClaim := { program := "ytdgibmgifgdpbaa", sum := "c96c4a7daea8dc2105623d6bc93a48ec02ad805d5882d25ef6ac33450e3b745e", func := "limitrophe/limitrophelaw04.RidgeGrounds", spec := "ridgeGrounds", unfollowed := true, recurses := true, apart := false }
def RidgeGroundsSaid : Prop := ridgeGroundsRow.holds Try.pinned (OpenSpec.ofChange ridgeGroundsSpec)

/-- ITS FALSE NEIGHBOUR: 'it returns false'. Refute it at one input. -/
def ridgeGroundsWrong : ChangeSpec := { name := "ridgeGrounds", fn := fun _ => fun
  | [d1, d2, d3] => { results := [.lit (.bool false)], args := [d1, d2, d3] }
  | _ => none }
def RidgeGroundsWrongFalsely : Prop := ridgeGroundsRow.holds Try.pinned (OpenSpec.ofChange ridgeGroundsWrong)

/-- 'limitrophelaw04.RidgeProofs': WHATEVER THE INPUT: true; the input reads as it did. -/
def ridgeProofsSpec : ChangeSpec := { name := "ridgeProofs", fn := fun _ => fun
  | [d1, d2, d3, d4] => { results := [.lit (.bool true)], args := [d1, d2, d3, d4] }
  | _ => none }
def ridgeProofsRow : OpenClaim := { program := "ytdgibmgifgdpbaa", sum := "c96c4a7daea8dc2105623d6bc93a48ec02ad805d5882d25ef6ac33450e3b745e", func := "limitrophe/limitrophelaw04.RidgeProofs", spec := "ridgeProofs", unfollowed := true, recurses := true, apart := false }
def RidgeProofsSaid : Prop := ridgeProofsRow.holds Try.pinned (OpenSpec.ofChange ridgeProofsSpec)

/-- ITS FALSE NEIGHBOUR: 'it returns false'. Refute it at one input. -/
def ridgeProofsWrong : ChangeSpec := { name := "ridgeProofs", fn := fun _ => fun
  | [d1, d2, d3, d4] => { results := [.lit (.bool false)], args := [d1, d2, d3, d4] }
  | _ => none }
def RidgeProofsWrongFalsely : Prop := ridgeProofsRow.holds Try.pinned (OpenSpec.ofChange ridgeProofsWrong)

/-- 'limitrophelaw04.RidgeProved': WHATEVER THE INPUT: true; the input reads as it did. -/
def ridgeProvedSpec : ChangeSpec := { name := "ridgeProved", fn := fun _ => fun
  | [d1, d2] => { results := [.lit (.bool true)], args := [d1, d2] }
  | _ => none }
def ridgeProvedRow : OpenClaim := { program := "ytdgibmgifgdpbaa", sum := "c96c4a7daea8dc2105623d6bc93a48ec02ad805d5882d25ef6ac33450e3b745e", func := "limitrophe/limitrophelaw04.RidgeProved", spec := "ridgeProved", unfollowed := true, recurses := true, apart := false }
def RidgeProvedSaid : Prop := ridgeProvedRow.holds Try.pinned (OpenSpec.ofChange ridgeProvedSpec)

/-- ITS FALSE NEIGHBOUR: 'it returns false'. Refute it at one input. -/
def ridgeProvedWrong : ChangeSpec := { name := "ridgeProved", fn := fun _ => fun
  | [d1, d2] => { results := [.lit (.bool false)], args := [d1, d2] }
  | _ => none }
def RidgeProvedWrongFalsely : Prop := ridgeProvedRow.holds Try.pinned (OpenSpec.ofChange ridgeProvedWrong)

/-- 'limitrophelaw04.RidgeSmall': WHATEVER THE INPUT: true; the input reads as it did. -/
def ridgeSmallSpec : ChangeSpec := { name := "ridgeSmall", fn := fun _ => fun
  | [] => { results := [.lit (.bool true)], args := [] }
  | _ => none }
def ridgeSmallRow : OpenClaim := { program := "ytdgibmgifgdpbaa", sum := "c96c4a7daea8dc2105623d6bc93a48ec02ad805d5882d25ef6ac33450e3b745e", func := "limitrophe/limitrophelaw04.RidgeSmall", spec := "ridgeSmall", unfollowed := true, recurses := true, apart := false }
def RidgeSmallSaid : Prop := ridgeSmallRow.holds Try.pinned (OpenSpec.ofChange ridgeSmallSpec)

/-- ITS FALSE NEIGHBOUR: 'it returns false'. Refute it at one input. -/
def ridgeSmallWrong : ChangeSpec := { name := "ridgeSmall", fn := fun _ => fun
  | [] => { results := [.lit (.bool false)], args := [] }
  | _ => none }
def RidgeSmallWrongFalsely : Prop := ridgeSmallRow.holds Try.pinned (OpenSpec.ofChange ridgeSmallWrong)

/- THE SECOND FORM. 'bulk': how many values and letters a reading holds, each counted each time it is reached (what is shared counts as often as it is met; a slice's spare places count too). A statement '..UptoSaid' is the law's where the arguments, and the package variables that the reading takes, are together of bulk at most 1048576: NARROWER than '..Said'. Prove '..Said' where nothing that the law and all that it calls make is longer than what came in: it says more and counts as full. Else prove '..UptoSaid'. A law counts once. -/
mutual
def uptoBulk {H : Type} : DataW H → Nat
  | .lit (.string bytes) => bytes.length + 1
  | .lit _ => 1
  | .nil => 1
  | .ptr d => uptoBulk d + 1
  | .slice elems spare => uptoBulkAll elems + uptoBulkAll spare + 1
  | .agg parts => uptoBulkAll parts + 1
  | .iface _ d => uptoBulk d + 1
  | .map entries => uptoBulkEntries entries + 1
  | .held _ => 1
def uptoBulkAll {H : Type} : List (DataW H) → Nat
  | [] => 0
  | d :: r => uptoBulk d + uptoBulkAll r
def uptoBulkEntries {H : Type} : List (Lit × DataW H) → Nat
  | [] => 0
  | x :: r => uptoBulkEntry x + uptoBulkEntries r
def uptoBulkEntry {H : Type} : Lit × DataW H → Nat
  | (.string bytes, d) => bytes.length + uptoBulk d + 1
  | (_, d) => uptoBulk d + 1
 end
def uptoSmall : (H : Type) → List (DataW H) → Bool := fun _ ds => decide (uptoBulkAll ds ≤ 1048576)
def OpenSpec.upto (s : _root_.Go.ChangeSpec) : _root_.Go.OpenSpec := { _root_.Go.OpenSpec.ofChange s with cond := some uptoSmall }

/-- 'limitrophelaw04.RidgeSides', WHERE WHAT IT READS IS OF BULK AT MOST 1048576: true; the input reads as it did. -/
def ridgeSidesUptoRow : OpenClaim := { program := "ytdgibmgifgdpbaa", sum := "c96c4a7daea8dc2105623d6bc93a48ec02ad805d5882d25ef6ac33450e3b745e", func := "limitrophe/limitrophelaw04.RidgeSides", spec := "ridgeSides", unfollowed := true, recurses := true, apart := false, narrowed := true }
def RidgeSidesUptoSaid : Prop := ridgeSidesUptoRow.holds Try.pinned (OpenSpec.upto ridgeSidesSpec)

/-- 'limitrophelaw04.RidgeTurned', WHERE WHAT IT READS IS OF BULK AT MOST 1048576: true; the input reads as it did. -/
def ridgeTurnedUptoRow : OpenClaim := { program := "ytdgibmgifgdpbaa", sum := "c96c4a7daea8dc2105623d6bc93a48ec02ad805d5882d25ef6ac33450e3b745e", func := "limitrophe/limitrophelaw04.RidgeTurned", spec := "ridgeTurned", unfollowed := true, recurses := true, apart := false, narrowed := true }
def RidgeTurnedUptoSaid : Prop := ridgeTurnedUptoRow.holds Try.pinned (OpenSpec.upto ridgeTurnedSpec)

/-- 'limitrophelaw04.RidgeRaised', WHERE WHAT IT READS IS OF BULK AT MOST 1048576: true; the input reads as it did. -/
def ridgeRaisedUptoRow : OpenClaim := { program := "ytdgibmgifgdpbaa", sum := "c96c4a7daea8dc2105623d6bc93a48ec02ad805d5882d25ef6ac33450e3b745e", func := "limitrophe/limitrophelaw04.RidgeRaised", spec := "ridgeRaised", unfollowed := true, recurses := true, apart := false, narrowed := true }
def RidgeRaisedUptoSaid : Prop := ridgeRaisedUptoRow.holds Try.pinned (OpenSpec.upto ridgeRaisedSpec)

/-- 'limitrophelaw04.RidgeSure', WHERE WHAT IT READS IS OF BULK AT MOST 1048576: true; the input reads as it did. -/
def ridgeSureUptoRow : OpenClaim := { program := "ytdgibmgifgdpbaa", sum := "c96c4a7daea8dc2105623d6bc93a48ec02ad805d5882d25ef6ac33450e3b745e", func := "limitrophe/limitrophelaw04.RidgeSure", spec := "ridgeSure", unfollowed := true, recurses := true, apart := false, narrowed := true }
def RidgeSureUptoSaid : Prop := ridgeSureUptoRow.holds Try.pinned (OpenSpec.upto ridgeSureSpec)

/-- 'limitrophelaw04.RidgeNamed', WHERE WHAT IT READS IS OF BULK AT MOST 1048576: true; the input reads as it did. -/
def ridgeNamedUptoRow : OpenClaim := { program := "ytdgibmgifgdpbaa", sum := "c96c4a7daea8dc2105623d6bc93a48ec02ad805d5882d25ef6ac33450e3b745e", func := "limitrophe/limitrophelaw04.RidgeNamed", spec := "ridgeNamed", unfollowed := true, recurses := true, apart := false, narrowed := true }
def RidgeNamedUptoSaid : Prop := ridgeNamedUptoRow.holds Try.pinned (OpenSpec.upto ridgeNamedSpec)

/-- 'limitrophelaw04.RidgeNarrow', WHERE WHAT IT READS IS OF BULK AT MOST 1048576: true; the input reads as it did. -/
def ridgeNarrowUptoRow : OpenClaim := { program := "ytdgibmgifgdpbaa", sum := "c96c4a7daea8dc2105623d6bc93a48ec02ad805d5882d25ef6ac33450e3b745e", func := "limitrophe/limitrophelaw04.RidgeNarrow", spec := "ridgeNarrow", unfollowed := true, recurses := true, apart := false, narrowed := true }
def RidgeNarrowUptoSaid : Prop := ridgeNarrowUptoRow.holds Try.pinned (OpenSpec.upto ridgeNarrowSpec)

/-- 'limitrophelaw04.RidgeGrounds', WHERE WHAT IT READS IS OF BULK AT MOST 1048576: true; the input reads as it did. -/
def ridgeGroundsUptoRow : OpenClaim := { program := "ytdgibmgifgdpbaa", sum := "c96c4a7daea8dc2105623d6bc93a48ec02ad805d5882d25ef6ac33450e3b745e", func := "limitrophe/limitrophelaw04.RidgeGrounds", spec := "ridgeGrounds", unfollowed := true, recurses := true, apart := false, narrowed := true }
def RidgeGroundsUptoSaid : Prop := ridgeGroundsUptoRow.holds Try.pinned (OpenSpec.upto ridgeGroundsSpec)

/-- 'limitrophelaw04.RidgeProofs', WHERE WHAT IT READS IS OF BULK AT MOST 1048576: true; the input reads as it did. -/
def ridgeProofsUptoRow : OpenClaim := { program := "ytdgibmgifgdpbaa", sum := "c96c4a7daea8dc2105623d6bc93a48ec02ad805d5882d25ef6ac33450e3b745e", func := "limitrophe/limitrophelaw04.RidgeProofs", spec := "ridgeProofs", unfollowed := true, recurses := true, apart := false, narrowed := true }
def RidgeProofsUptoSaid : Prop := ridgeProofsUptoRow.holds Try.pinned (OpenSpec.upto ridgeProofsSpec)

/-- 'limitrophelaw04.RidgeProved', WHERE WHAT IT READS IS OF BULK AT MOST 1048576: true; the input reads as it did. -/
def ridgeProvedUptoRow : OpenClaim := { program := "ytdgibmgifgdpbaa", sum := "c96c4a7daea8dc2105623d6bc93a48ec02ad805d5882d25ef6ac33450e3b745e", func := "limitrophe/limitrophelaw04.RidgeProved", spec := "ridgeProved", unfollowed := true, recurses := true, apart := false, narrowed := true }
def RidgeProvedUptoSaid : Prop := ridgeProvedUptoRow.holds Try.pinned (OpenSpec.upto ridgeProvedSpec)

/-- 'limitrophelaw04.RidgeSmall', WHERE WHAT IT READS IS OF BULK AT MOST 1048576: true; the input reads as it did. -/
def ridgeSmallUptoRow : OpenClaim := { program := "ytdgibmgifgdpbaa", sum := "c96c4a7daea8dc2105623d6bc93a48ec02ad805d5882d25ef6ac33450e3b745e", func := "limitrophe/limitrophelaw04.RidgeSmall", spec := "ridgeSmall", unfollowed := true, recurses := true, apart := false, narrowed := true }
def RidgeSmallUptoSaid : Prop := ridgeSmallUptoRow.holds Try.pinned (OpenSpec.upto ridgeSmallSpec)

end Rows
end Go.Proofs.Ytdgibmgifgdpbaa
