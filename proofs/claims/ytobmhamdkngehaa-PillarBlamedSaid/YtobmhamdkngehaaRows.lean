/-
  No cell of these rows narrows 'for every input' (looked for: loops, veiled, ifaces, maps, wideKeys, modest, calm, conditions, laid).
  DERIVED. THE GIVEN ROWS OF THIS SEAT. 11 by the template 'for every input the law returns true; each argument reads behind the call as it read before'; 0 by the template 'total and deterministic' (their statements: YtobmhamdkngehaaTotals.lean).
  GIVEN WITH THE SEED: the statements are not yours to turn. If you find one false, say at which input.
  Laid BY PROGRAM, IN A SANDBOX (cutbox-rows.mjs): the forced cells as the released guide's own fill.sh prints them over the translation 4a37edc792f10750… (all of the seat's roots in one cut). By AI agents, Wed Nov 11 2026. No macro, syntax, notation, axiom, sorry.
-/
import Derived.Test.YtobmhamdkngehaaChecked
import GoSem.Claim
import GoSem.ClaimJoined
import GoSem.ClaimMapViews
import Derived.JoinedTies
import Derived.KernelRfl
namespace Go.Proofs.Ytobmhamdkngehaa
/- THE CELL 'sum', in the pinned program and in every row, IS THE sha256 OF THE DUMP (.gsa) THAT YtobmhamdkngehaaProg.lean LOADS. Nothing in Lean hashes anything: it is a label: what it is worth is what the hold of that sum in a sandbox is worth. -/
noncomputable def Try.pinned : Pinned := { name := "ytobmhamdkngehaa", sum := "4a37edc792f10750150d5bf8e21051117f27e41b8bf3f5e1182987217e2cb54f", checked := Try.checked }
namespace Rows
def none {H : Type} : Left H := { results := [], args := [] }

/-- 'limitrophelaw06.PillarMends': WHATEVER THE INPUT: true; the input reads as it did. -/
def pillarMendsSpec : ChangeSpec := { name := "pillarMends", fn := fun _ => fun
  | [d1, d2, d3] => { results := [.lit (.bool true)], args := [d1, d2, d3] }
  | _ => none }
def pillarMendsRow : OpenClaim := { program := "ytobmhamdkngehaa", sum := "4a37edc792f10750150d5bf8e21051117f27e41b8bf3f5e1182987217e2cb54f", func := "limitrophe/limitrophelaw06.PillarMends", spec := "pillarMends", unfollowed := true, recurses := true, apart := false }
def PillarMendsSaid : Prop := pillarMendsRow.holds Try.pinned (OpenSpec.ofChange pillarMendsSpec)

/-- ITS FALSE NEIGHBOUR: 'it returns false'. Refute it at one input. -/
def pillarMendsWrong : ChangeSpec := { name := "pillarMends", fn := fun _ => fun
  | [d1, d2, d3] => { results := [.lit (.bool false)], args := [d1, d2, d3] }
  | _ => none }
def PillarMendsWrongFalsely : Prop := pillarMendsRow.holds Try.pinned (OpenSpec.ofChange pillarMendsWrong)

/-- 'limitrophelaw06.PillarStones': WHATEVER THE INPUT: true; the input reads as it did. -/
def pillarStonesSpec : ChangeSpec := { name := "pillarStones", fn := fun _ => fun
  | [d1, d2] => { results := [.lit (.bool true)], args := [d1, d2] }
  | _ => none }
def pillarStonesRow : OpenClaim := { program := "ytobmhamdkngehaa", sum := "4a37edc792f10750150d5bf8e21051117f27e41b8bf3f5e1182987217e2cb54f", func := "limitrophe/limitrophelaw06.PillarStones", spec := "pillarStones", unfollowed := true, recurses := true, apart := false }
def PillarStonesSaid : Prop := pillarStonesRow.holds Try.pinned (OpenSpec.ofChange pillarStonesSpec)

/-- ITS FALSE NEIGHBOUR: 'it returns false'. Refute it at one input. -/
def pillarStonesWrong : ChangeSpec := { name := "pillarStones", fn := fun _ => fun
  | [d1, d2] => { results := [.lit (.bool false)], args := [d1, d2] }
  | _ => none }
def PillarStonesWrongFalsely : Prop := pillarStonesRow.holds Try.pinned (OpenSpec.ofChange pillarStonesWrong)

/-- 'limitrophelaw06.PillarTaller': WHATEVER THE INPUT: true; the input reads as it did. -/
def pillarTallerSpec : ChangeSpec := { name := "pillarTaller", fn := fun _ => fun
  | [d1, d2, d3, d4, d5] => { results := [.lit (.bool true)], args := [d1, d2, d3, d4, d5] }
  | _ => none }
def pillarTallerRow : OpenClaim := { program := "ytobmhamdkngehaa", sum := "4a37edc792f10750150d5bf8e21051117f27e41b8bf3f5e1182987217e2cb54f", func := "limitrophe/limitrophelaw06.PillarTaller", spec := "pillarTaller", unfollowed := true, recurses := true, apart := false }
def PillarTallerSaid : Prop := pillarTallerRow.holds Try.pinned (OpenSpec.ofChange pillarTallerSpec)

/-- ITS FALSE NEIGHBOUR: 'it returns false'. Refute it at one input. -/
def pillarTallerWrong : ChangeSpec := { name := "pillarTaller", fn := fun _ => fun
  | [d1, d2, d3, d4, d5] => { results := [.lit (.bool false)], args := [d1, d2, d3, d4, d5] }
  | _ => none }
def PillarTallerWrongFalsely : Prop := pillarTallerRow.holds Try.pinned (OpenSpec.ofChange pillarTallerWrong)

/-- 'limitrophelaw06.PillarTurned': WHATEVER THE INPUT: true; the input reads as it did. -/
def pillarTurnedSpec : ChangeSpec := { name := "pillarTurned", fn := fun _ => fun
  | [d1, d2, d3, d4] => { results := [.lit (.bool true)], args := [d1, d2, d3, d4] }
  | _ => none }
def pillarTurnedRow : OpenClaim := { program := "ytobmhamdkngehaa", sum := "4a37edc792f10750150d5bf8e21051117f27e41b8bf3f5e1182987217e2cb54f", func := "limitrophe/limitrophelaw06.PillarTurned", spec := "pillarTurned", unfollowed := true, recurses := true, apart := false }
def PillarTurnedSaid : Prop := pillarTurnedRow.holds Try.pinned (OpenSpec.ofChange pillarTurnedSpec)

/-- ITS FALSE NEIGHBOUR: 'it returns false'. Refute it at one input. -/
def pillarTurnedWrong : ChangeSpec := { name := "pillarTurned", fn := fun _ => fun
  | [d1, d2, d3, d4] => { results := [.lit (.bool false)], args := [d1, d2, d3, d4] }
  | _ => none }
def PillarTurnedWrongFalsely : Prop := pillarTurnedRow.holds Try.pinned (OpenSpec.ofChange pillarTurnedWrong)

/-- 'limitrophelaw06.PillarRead': WHATEVER THE INPUT: true; the input reads as it did. -/
def pillarReadSpec : ChangeSpec := { name := "pillarRead", fn := fun _ => fun
  | [d1, d2, d3] => { results := [.lit (.bool true)], args := [d1, d2, d3] }
  | _ => none }
def pillarReadRow : OpenClaim := { program := "ytobmhamdkngehaa", sum := "4a37edc792f10750150d5bf8e21051117f27e41b8bf3f5e1182987217e2cb54f", func := "limitrophe/limitrophelaw06.PillarRead", spec := "pillarRead", unfollowed := true, recurses := true, apart := false }
def PillarReadSaid : Prop := pillarReadRow.holds Try.pinned (OpenSpec.ofChange pillarReadSpec)

/-- ITS FALSE NEIGHBOUR: 'it returns false'. Refute it at one input. -/
def pillarReadWrong : ChangeSpec := { name := "pillarRead", fn := fun _ => fun
  | [d1, d2, d3] => { results := [.lit (.bool false)], args := [d1, d2, d3] }
  | _ => none }
def PillarReadWrongFalsely : Prop := pillarReadRow.holds Try.pinned (OpenSpec.ofChange pillarReadWrong)

/-- 'limitrophelaw06.PillarBlamed': WHATEVER THE INPUT: true; the input reads as it did. -/
def pillarBlamedSpec : ChangeSpec := { name := "pillarBlamed", fn := fun _ => fun
  | [d1, d2, d3] => { results := [.lit (.bool true)], args := [d1, d2, d3] }
  | _ => none }
def pillarBlamedRow : OpenClaim := { program := "ytobmhamdkngehaa", sum := "4a37edc792f10750150d5bf8e21051117f27e41b8bf3f5e1182987217e2cb54f", func := "limitrophe/limitrophelaw06.PillarBlamed", spec := "pillarBlamed", unfollowed := true, recurses := true, apart := false }
def PillarBlamedSaid : Prop := pillarBlamedRow.holds Try.pinned (OpenSpec.ofChange pillarBlamedSpec)

/-- ITS FALSE NEIGHBOUR: 'it returns false'. Refute it at one input. -/
def pillarBlamedWrong : ChangeSpec := { name := "pillarBlamed", fn := fun _ => fun
  | [d1, d2, d3] => { results := [.lit (.bool false)], args := [d1, d2, d3] }
  | _ => none }
def PillarBlamedWrongFalsely : Prop := pillarBlamedRow.holds Try.pinned (OpenSpec.ofChange pillarBlamedWrong)

/-- 'limitrophelaw06.PillarMended': WHATEVER THE INPUT: true; the input reads as it did. -/
def pillarMendedSpec : ChangeSpec := { name := "pillarMended", fn := fun _ => fun
  | [d1, d2, d3] => { results := [.lit (.bool true)], args := [d1, d2, d3] }
  | _ => none }
def pillarMendedRow : OpenClaim := { program := "ytobmhamdkngehaa", sum := "4a37edc792f10750150d5bf8e21051117f27e41b8bf3f5e1182987217e2cb54f", func := "limitrophe/limitrophelaw06.PillarMended", spec := "pillarMended", unfollowed := true, recurses := true, apart := false }
def PillarMendedSaid : Prop := pillarMendedRow.holds Try.pinned (OpenSpec.ofChange pillarMendedSpec)

/-- ITS FALSE NEIGHBOUR: 'it returns false'. Refute it at one input. -/
def pillarMendedWrong : ChangeSpec := { name := "pillarMended", fn := fun _ => fun
  | [d1, d2, d3] => { results := [.lit (.bool false)], args := [d1, d2, d3] }
  | _ => none }
def PillarMendedWrongFalsely : Prop := pillarMendedRow.holds Try.pinned (OpenSpec.ofChange pillarMendedWrong)

/-- 'limitrophelaw06.PillarSights': WHATEVER THE INPUT: true; the input reads as it did. -/
def pillarSightsSpec : ChangeSpec := { name := "pillarSights", fn := fun _ => fun
  | [d1, d2, d3, d4, d5] => { results := [.lit (.bool true)], args := [d1, d2, d3, d4, d5] }
  | _ => none }
def pillarSightsRow : OpenClaim := { program := "ytobmhamdkngehaa", sum := "4a37edc792f10750150d5bf8e21051117f27e41b8bf3f5e1182987217e2cb54f", func := "limitrophe/limitrophelaw06.PillarSights", spec := "pillarSights", unfollowed := true, recurses := true, apart := false }
def PillarSightsSaid : Prop := pillarSightsRow.holds Try.pinned (OpenSpec.ofChange pillarSightsSpec)

/-- ITS FALSE NEIGHBOUR: 'it returns false'. Refute it at one input. -/
def pillarSightsWrong : ChangeSpec := { name := "pillarSights", fn := fun _ => fun
  | [d1, d2, d3, d4, d5] => { results := [.lit (.bool false)], args := [d1, d2, d3, d4, d5] }
  | _ => none }
def PillarSightsWrongFalsely : Prop := pillarSightsRow.holds Try.pinned (OpenSpec.ofChange pillarSightsWrong)

/-- 'limitrophelaw06.PillarSure': WHATEVER THE INPUT: true; the input reads as it did. -/
def pillarSureSpec : ChangeSpec := { name := "pillarSure", fn := fun _ => fun
  | [d1, d2, d3, d4] => { results := [.lit (.bool true)], args := [d1, d2, d3, d4] }
  | _ => none }
def pillarSureRow : OpenClaim := { program := "ytobmhamdkngehaa", sum := "4a37edc792f10750150d5bf8e21051117f27e41b8bf3f5e1182987217e2cb54f", func := "limitrophe/limitrophelaw06.PillarSure", spec := "pillarSure", unfollowed := true, recurses := true, apart := false }
def PillarSureSaid : Prop := pillarSureRow.holds Try.pinned (OpenSpec.ofChange pillarSureSpec)

/-- ITS FALSE NEIGHBOUR: 'it returns false'. Refute it at one input. -/
def pillarSureWrong : ChangeSpec := { name := "pillarSure", fn := fun _ => fun
  | [d1, d2, d3, d4] => { results := [.lit (.bool false)], args := [d1, d2, d3, d4] }
  | _ => none }
def PillarSureWrongFalsely : Prop := pillarSureRow.holds Try.pinned (OpenSpec.ofChange pillarSureWrong)

/-- 'limitrophelaw06.PillarChains': WHATEVER THE INPUT: true; the input reads as it did. -/
def pillarChainsSpec : ChangeSpec := { name := "pillarChains", fn := fun _ => fun
  | [d1, d2, d3] => { results := [.lit (.bool true)], args := [d1, d2, d3] }
  | _ => none }
def pillarChainsRow : OpenClaim := { program := "ytobmhamdkngehaa", sum := "4a37edc792f10750150d5bf8e21051117f27e41b8bf3f5e1182987217e2cb54f", func := "limitrophe/limitrophelaw06.PillarChains", spec := "pillarChains", unfollowed := true, recurses := true, apart := false }
def PillarChainsSaid : Prop := pillarChainsRow.holds Try.pinned (OpenSpec.ofChange pillarChainsSpec)

/-- ITS FALSE NEIGHBOUR: 'it returns false'. Refute it at one input. -/
def pillarChainsWrong : ChangeSpec := { name := "pillarChains", fn := fun _ => fun
  | [d1, d2, d3] => { results := [.lit (.bool false)], args := [d1, d2, d3] }
  | _ => none }
def PillarChainsWrongFalsely : Prop := pillarChainsRow.holds Try.pinned (OpenSpec.ofChange pillarChainsWrong)

/-- 'limitrophelaw06.PillarSeen': WHATEVER THE INPUT: true; the input reads as it did. -/
def pillarSeenSpec : ChangeSpec := { name := "pillarSeen", fn := fun _ => fun
  | [d1, d2] => { results := [.lit (.bool true)], args := [d1, d2] }
  | _ => none }
def pillarSeenRow : OpenClaim := { program := "ytobmhamdkngehaa", sum := "4a37edc792f10750150d5bf8e21051117f27e41b8bf3f5e1182987217e2cb54f", func := "limitrophe/limitrophelaw06.PillarSeen", spec := "pillarSeen", unfollowed := true, recurses := true, apart := false }
def PillarSeenSaid : Prop := pillarSeenRow.holds Try.pinned (OpenSpec.ofChange pillarSeenSpec)

/-- ITS FALSE NEIGHBOUR: 'it returns false'. Refute it at one input. -/
def pillarSeenWrong : ChangeSpec := { name := "pillarSeen", fn := fun _ => fun
  | [d1, d2] => { results := [.lit (.bool false)], args := [d1, d2] }
  | _ => none }
def PillarSeenWrongFalsely : Prop := pillarSeenRow.holds Try.pinned (OpenSpec.ofChange pillarSeenWrong)

/- THE SECOND FORM. 'bulk': how many values and letters a reading holds, each counted each time it is reached (what is shared counts as often as it is met; a slice's spare places count too). A statement '..UptoSaid' is the law's where the arguments, and the package variables that the reading takes, are together of bulk at most 1048576: NARROWER than '..Said'. Prove '..Said' where nothing that the law and all that it calls make is longer than what came in: it says more and counts as full. Else prove '..UptoSaid'. A law counts once. -/
mutual
def uptoBulk {H : Type} : DataW H → Nat
  | .lit (.string bytes) => bytes.length + 1
  | .lit _ => 1
  | .nil => 1
  | .ptr d => uptoBulk d + 1
  | .slice elems spare => uptoBulkAll elems + uptoBulkAll spare + 1
  | .agg parts => uptoBulkAll parts + 1
  | .iface _ d => uptoBulk d + 1
  | .map entries => uptoBulkEntries entries + 1
  | .held _ => 1
def uptoBulkAll {H : Type} : List (DataW H) → Nat
  | [] => 0
  | d :: r => uptoBulk d + uptoBulkAll r
def uptoBulkEntries {H : Type} : List (Lit × DataW H) → Nat
  | [] => 0
  | x :: r => uptoBulkEntry x + uptoBulkEntries r
def uptoBulkEntry {H : Type} : Lit × DataW H → Nat
  | (.string bytes, d) => bytes.length + uptoBulk d + 1
  | (_, d) => uptoBulk d + 1
 end
def uptoSmall : (H : Type) → List (DataW H) → Bool := fun _ ds => decide (uptoBulkAll ds ≤ 1048576)
def OpenSpec.upto (s : _root_.Go.ChangeSpec) : _root_.Go.OpenSpec := { _root_.Go.OpenSpec.ofChange s with cond := some uptoSmall }

/-- 'limitrophelaw06.PillarMends', WHERE WHAT IT READS IS OF BULK AT MOST 1048576: true; the input reads as it did. -/
def pillarMendsUptoRow : OpenClaim := { program := "ytobmhamdkngehaa", sum := "4a37edc792f10750150d5bf8e21051117f27e41b8bf3f5e1182987217e2cb54f", func := "limitrophe/limitrophelaw06.PillarMends", spec := "pillarMends", unfollowed := true, recurses := true, apart := false, narrowed := true }
def PillarMendsUptoSaid : Prop := pillarMendsUptoRow.holds Try.pinned (OpenSpec.upto pillarMendsSpec)

/-- 'limitrophelaw06.PillarStones', WHERE WHAT IT READS IS OF BULK AT MOST 1048576: true; the input reads as it did. -/
def pillarStonesUptoRow : OpenClaim := { program := "ytobmhamdkngehaa", sum := "4a37edc792f10750150d5bf8e21051117f27e41b8bf3f5e1182987217e2cb54f", func := "limitrophe/limitrophelaw06.PillarStones", spec := "pillarStones", unfollowed := true, recurses := true, apart := false, narrowed := true }
def PillarStonesUptoSaid : Prop := pillarStonesUptoRow.holds Try.pinned (OpenSpec.upto pillarStonesSpec)

/-- 'limitrophelaw06.PillarTaller', WHERE WHAT IT READS IS OF BULK AT MOST 1048576: true; the input reads as it did. -/
def pillarTallerUptoRow : OpenClaim := { program := "ytobmhamdkngehaa", sum := "4a37edc792f10750150d5bf8e21051117f27e41b8bf3f5e1182987217e2cb54f", func := "limitrophe/limitrophelaw06.PillarTaller", spec := "pillarTaller", unfollowed := true, recurses := true, apart := false, narrowed := true }
def PillarTallerUptoSaid : Prop := pillarTallerUptoRow.holds Try.pinned (OpenSpec.upto pillarTallerSpec)

/-- 'limitrophelaw06.PillarTurned', WHERE WHAT IT READS IS OF BULK AT MOST 1048576: true; the input reads as it did. -/
def pillarTurnedUptoRow : OpenClaim := { program := "ytobmhamdkngehaa", sum := "4a37edc792f10750150d5bf8e21051117f27e41b8bf3f5e1182987217e2cb54f", func := "limitrophe/limitrophelaw06.PillarTurned", spec := "pillarTurned", unfollowed := true, recurses := true, apart := false, narrowed := true }
def PillarTurnedUptoSaid : Prop := pillarTurnedUptoRow.holds Try.pinned (OpenSpec.upto pillarTurnedSpec)

/-- 'limitrophelaw06.PillarRead', WHERE WHAT IT READS IS OF BULK AT MOST 1048576: true; the input reads as it did. -/
def pillarReadUptoRow : OpenClaim := { program := "ytobmhamdkngehaa", sum := "4a37edc792f10750150d5bf8e21051117f27e41b8bf3f5e1182987217e2cb54f", func := "limitrophe/limitrophelaw06.PillarRead", spec := "pillarRead", unfollowed := true, recurses := true, apart := false, narrowed := true }
def PillarReadUptoSaid : Prop := pillarReadUptoRow.holds Try.pinned (OpenSpec.upto pillarReadSpec)

/-- 'limitrophelaw06.PillarBlamed', WHERE WHAT IT READS IS OF BULK AT MOST 1048576: true; the input reads as it did. -/
def pillarBlamedUptoRow : OpenClaim := { program := "ytobmhamdkngehaa", sum := "4a37edc792f10750150d5bf8e21051117f27e41b8bf3f5e1182987217e2cb54f", func := "limitrophe/limitrophelaw06.PillarBlamed", spec := "pillarBlamed", unfollowed := true, recurses := true, apart := false, narrowed := true }
def PillarBlamedUptoSaid : Prop := pillarBlamedUptoRow.holds Try.pinned (OpenSpec.upto pillarBlamedSpec)

/-- 'limitrophelaw06.PillarMended', WHERE WHAT IT READS IS OF BULK AT MOST 1048576: true; the input reads as it did. -/
def pillarMendedUptoRow : OpenClaim := { program := "ytobmhamdkngehaa", sum := "4a37edc792f10750150d5bf8e21051117f27e41b8bf3f5e1182987217e2cb54f", func := "limitrophe/limitrophelaw06.PillarMended", spec := "pillarMended", unfollowed := true, recurses := true, apart := false, narrowed := true }
def PillarMendedUptoSaid : Prop := pillarMendedUptoRow.holds Try.pinned (OpenSpec.upto pillarMendedSpec)

/-- 'limitrophelaw06.PillarSights', WHERE WHAT IT READS IS OF BULK AT MOST 1048576: true; the input reads as it did. -/
def pillarSightsUptoRow : OpenClaim := { program := "ytobmhamdkngehaa", sum := "4a37edc792f10750150d5bf8e21051117f27e41b8bf3f5e1182987217e2cb54f", func := "limitrophe/limitrophelaw06.PillarSights", spec := "pillarSights", unfollowed := true, recurses := true, apart := false, narrowed := true }
def PillarSightsUptoSaid : Prop := pillarSightsUptoRow.holds Try.pinned (OpenSpec.upto pillarSightsSpec)

/-- 'limitrophelaw06.PillarSure', WHERE WHAT IT READS IS OF BULK AT MOST 1048576: true; the input reads as it did. -/
def pillarSureUptoRow : OpenClaim := { program := "ytobmhamdkngehaa", sum := "4a37edc792f10750150d5bf8e21051117f27e41b8bf3f5e1182987217e2cb54f", func := "limitrophe/limitrophelaw06.PillarSure", spec := "pillarSure", unfollowed := true, recurses := true, apart := false, narrowed := true }
def PillarSureUptoSaid : Prop := pillarSureUptoRow.holds Try.pinned (OpenSpec.upto pillarSureSpec)

/-- 'limitrophelaw06.PillarChains', WHERE WHAT IT READS IS OF BULK AT MOST 1048576: true; the input reads as it did. -/
def pillarChainsUptoRow : OpenClaim := { program := "ytobmhamdkngehaa", sum := "4a37edc792f10750150d5bf8e21051117f27e41b8bf3f5e1182987217e2cb54f", func := "limitrophe/limitrophelaw06.PillarChains", spec := "pillarChains", unfollowed := true, recurses := true, apart := false, narrowed := true }
def PillarChainsUptoSaid : Prop := pillarChainsUptoRow.holds Try.pinned (OpenSpec.upto pillarChainsSpec)

/-- 'limitrophelaw06.PillarSeen', WHERE WHAT IT READS IS OF BULK AT MOST 1048576: true; the input reads as it did. -/
def pillarSeenUptoRow : OpenClaim := { program := "ytobmhamdkngehaa", sum := "4a37edc792f10750150d5bf8e21051117f27e41b8bf3f5e1182987217e2cb54f", func := "limitrophe/limitrophelaw06.PillarSeen", spec := "pillarSeen", unfollowed := true, recurses := true, apart := false, narrowed := true }
def PillarSeenUptoSaid : Prop := pillarSeenUptoRow.holds Try.pinned (OpenSpec.upto pillarSeenSpec)

end Rows
end Go.Proofs.Ytobmhamdkngehaa
