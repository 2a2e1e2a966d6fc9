/-
  No cell of these rows narrows 'for every input' (looked for: loops, veiled, ifaces, maps, wideKeys, modest, calm, conditions, laid).
  DERIVED. THE GIVEN ROWS OF THIS SEAT. 8 by the template 'for every input the law returns true; each argument reads behind the call as it read before'; 0 by the template 'total and deterministic' (their statements: YtkjcnkkmhkcddaaTotals.lean).
  GIVEN WITH THE SEED: the statements are not yours to turn. If you find one false, say at which input.
  Laid BY PROGRAM, IN A SANDBOX (cutbox-rows.mjs): the forced cells as the released guide's own fill.sh prints them over the translation 317b4effce6f8813… (all of the seat's roots in one cut). By AI agents, Wed Nov 11 2026. No macro, syntax, notation, axiom, sorry.
-/
import Derived.Test.YtkjcnkkmhkcddaaChecked
import GoSem.Claim
import GoSem.ClaimJoined
import GoSem.ClaimMapViews
import Derived.JoinedTies
import Derived.KernelRfl
namespace Go.Proofs.Ytkjcnkkmhkcddaa
/- THE CELL 'sum', in the pinned program and in every row, IS THE sha256 OF THE DUMP (.gsa) THAT YtkjcnkkmhkcddaaProg.lean LOADS. Nothing in Lean hashes anything: it is a label: what it is worth is what the hold of that sum in a sandbox is worth. -/
noncomputable def Try.pinned : Pinned := { name := "ytkjcnkkmhkcddaa", sum := "317b4effce6f881354bb065241be4b1f27858468e27928b1aed3793bf86face8", checked := Try.checked }
namespace Rows
def none {H : Type} : Left H := { results := [], args := [] }

/-- 'limitrophelaw08.EnclaveDeeds': WHATEVER THE INPUT: true; the input reads as it did. -/
def enclaveDeedsSpec : ChangeSpec := { name := "enclaveDeeds", fn := fun _ => fun
  | [d1, d2] => { results := [.lit (.bool true)], args := [d1, d2] }
  | _ => none }
def enclaveDeedsRow : OpenClaim := { program := "ytkjcnkkmhkcddaa", sum := "317b4effce6f881354bb065241be4b1f27858468e27928b1aed3793bf86face8", func := "limitrophe/limitrophelaw08.EnclaveDeeds", spec := "enclaveDeeds", unfollowed := true, recurses := true, plainKeys := false, apart := false }
def EnclaveDeedsSaid : Prop := enclaveDeedsRow.holds Try.pinned (OpenSpec.ofChange enclaveDeedsSpec)

/-- ITS FALSE NEIGHBOUR: 'it returns false'. Refute it at one input. -/
def enclaveDeedsWrong : ChangeSpec := { name := "enclaveDeeds", fn := fun _ => fun
  | [d1, d2] => { results := [.lit (.bool false)], args := [d1, d2] }
  | _ => none }
def EnclaveDeedsWrongFalsely : Prop := enclaveDeedsRow.holds Try.pinned (OpenSpec.ofChange enclaveDeedsWrong)

/-- 'limitrophelaw08.EnclaveHoused': WHATEVER THE INPUT: true; the input reads as it did. -/
def enclaveHousedSpec : ChangeSpec := { name := "enclaveHoused", fn := fun _ => fun
  | [d1, d2, d3] => { results := [.lit (.bool true)], args := [d1, d2, d3] }
  | _ => none }
def enclaveHousedRow : OpenClaim := { program := "ytkjcnkkmhkcddaa", sum := "317b4effce6f881354bb065241be4b1f27858468e27928b1aed3793bf86face8", func := "limitrophe/limitrophelaw08.EnclaveHoused", spec := "enclaveHoused", unfollowed := true, recurses := true, plainKeys := false, apart := false }
def EnclaveHousedSaid : Prop := enclaveHousedRow.holds Try.pinned (OpenSpec.ofChange enclaveHousedSpec)

/-- ITS FALSE NEIGHBOUR: 'it returns false'. Refute it at one input. -/
def enclaveHousedWrong : ChangeSpec := { name := "enclaveHoused", fn := fun _ => fun
  | [d1, d2, d3] => { results := [.lit (.bool false)], args := [d1, d2, d3] }
  | _ => none }
def EnclaveHousedWrongFalsely : Prop := enclaveHousedRow.holds Try.pinned (OpenSpec.ofChange enclaveHousedWrong)

/-- 'limitrophelaw08.EnclaveRegions': WHATEVER THE INPUT: true; the input reads as it did. -/
def enclaveRegionsSpec : ChangeSpec := { name := "enclaveRegions", fn := fun _ => fun
  | [d] => { results := [.lit (.bool true)], args := [d] }
  | _ => none }
def enclaveRegionsRow : OpenClaim := { program := "ytkjcnkkmhkcddaa", sum := "317b4effce6f881354bb065241be4b1f27858468e27928b1aed3793bf86face8", func := "limitrophe/limitrophelaw08.EnclaveRegions", spec := "enclaveRegions", unfollowed := true, recurses := true, plainKeys := false, apart := false }
def EnclaveRegionsSaid : Prop := enclaveRegionsRow.holds Try.pinned (OpenSpec.ofChange enclaveRegionsSpec)

/-- ITS FALSE NEIGHBOUR: 'it returns false'. Refute it at one input. -/
def enclaveRegionsWrong : ChangeSpec := { name := "enclaveRegions", fn := fun _ => fun
  | [d] => { results := [.lit (.bool false)], args := [d] }
  | _ => none }
def EnclaveRegionsWrongFalsely : Prop := enclaveRegionsRow.holds Try.pinned (OpenSpec.ofChange enclaveRegionsWrong)

/-- 'limitrophelaw08.EnclaveTurned': WHATEVER THE INPUT: true; the input reads as it did. -/
def enclaveTurnedSpec : ChangeSpec := { name := "enclaveTurned", fn := fun _ => fun
  | [d] => { results := [.lit (.bool true)], args := [d] }
  | _ => none }
def enclaveTurnedRow : OpenClaim := { program := "ytkjcnkkmhkcddaa", sum := "317b4effce6f881354bb065241be4b1f27858468e27928b1aed3793bf86face8", func := "limitrophe/limitrophelaw08.EnclaveTurned", spec := "enclaveTurned", unfollowed := true, recurses := true, plainKeys := false, apart := false }
def EnclaveTurnedSaid : Prop := enclaveTurnedRow.holds Try.pinned (OpenSpec.ofChange enclaveTurnedSpec)

/-- ITS FALSE NEIGHBOUR: 'it returns false'. Refute it at one input. -/
def enclaveTurnedWrong : ChangeSpec := { name := "enclaveTurned", fn := fun _ => fun
  | [d] => { results := [.lit (.bool false)], args := [d] }
  | _ => none }
def EnclaveTurnedWrongFalsely : Prop := enclaveTurnedRow.holds Try.pinned (OpenSpec.ofChange enclaveTurnedWrong)

/-- 'limitrophelaw08.EnclaveWays': WHATEVER THE INPUT: true; the input reads as it did. -/
def enclaveWaysSpec : ChangeSpec := { name := "enclaveWays", fn := fun _ => fun
  | [d1, d2, d3, d4] => { results := [.lit (.bool true)], args := [d1, d2, d3, d4] }
  | _ => none }
def enclaveWaysRow : OpenClaim := { program := "ytkjcnkkmhkcddaa", sum := "317b4effce6f881354bb065241be4b1f27858468e27928b1aed3793bf86face8", func := "limitrophe/limitrophelaw08.EnclaveWays", spec := "enclaveWays", unfollowed := true, recurses := true, plainKeys := false, apart := false }
def EnclaveWaysSaid : Prop := enclaveWaysRow.holds Try.pinned (OpenSpec.ofChange enclaveWaysSpec)

/-- ITS FALSE NEIGHBOUR: 'it returns false'. Refute it at one input. -/
def enclaveWaysWrong : ChangeSpec := { name := "enclaveWays", fn := fun _ => fun
  | [d1, d2, d3, d4] => { results := [.lit (.bool false)], args := [d1, d2, d3, d4] }
  | _ => none }
def EnclaveWaysWrongFalsely : Prop := enclaveWaysRow.holds Try.pinned (OpenSpec.ofChange enclaveWaysWrong)

/-- 'limitrophelaw08.EnclaveTold': WHATEVER THE INPUT: true; the input reads as it did. -/
def enclaveToldSpec : ChangeSpec := { name := "enclaveTold", fn := fun _ => fun
  | [d] => { results := [.lit (.bool true)], args := [d] }
  | _ => none }
def enclaveToldRow : OpenClaim := { program := "ytkjcnkkmhkcddaa", sum := "317b4effce6f881354bb065241be4b1f27858468e27928b1aed3793bf86face8", func := "limitrophe/limitrophelaw08.EnclaveTold", spec := "enclaveTold", unfollowed := true, recurses := true, plainKeys := false, apart := false }
def EnclaveToldSaid : Prop := enclaveToldRow.holds Try.pinned (OpenSpec.ofChange enclaveToldSpec)

/-- ITS FALSE NEIGHBOUR: 'it returns false'. Refute it at one input. -/
def enclaveToldWrong : ChangeSpec := { name := "enclaveTold", fn := fun _ => fun
  | [d] => { results := [.lit (.bool false)], args := [d] }
  | _ => none }
def EnclaveToldWrongFalsely : Prop := enclaveToldRow.holds Try.pinned (OpenSpec.ofChange enclaveToldWrong)

/-- 'limitrophelaw08.EnclaveNested': WHATEVER THE INPUT: true; the input reads as it did. -/
def enclaveNestedSpec : ChangeSpec := { name := "enclaveNested", fn := fun _ => fun
  | [d] => { results := [.lit (.bool true)], args := [d] }
  | _ => none }
def enclaveNestedRow : OpenClaim := { program := "ytkjcnkkmhkcddaa", sum := "317b4effce6f881354bb065241be4b1f27858468e27928b1aed3793bf86face8", func := "limitrophe/limitrophelaw08.EnclaveNested", spec := "enclaveNested", unfollowed := true, recurses := true, plainKeys := false, apart := false }
def EnclaveNestedSaid : Prop := enclaveNestedRow.holds Try.pinned (OpenSpec.ofChange enclaveNestedSpec)

/-- ITS FALSE NEIGHBOUR: 'it returns false'. Refute it at one input. -/
def enclaveNestedWrong : ChangeSpec := { name := "enclaveNested", fn := fun _ => fun
  | [d] => { results := [.lit (.bool false)], args := [d] }
  | _ => none }
def EnclaveNestedWrongFalsely : Prop := enclaveNestedRow.holds Try.pinned (OpenSpec.ofChange enclaveNestedWrong)

/-- 'limitrophelaw08.EnclaveDivided': WHATEVER THE INPUT: true; the input reads as it did. -/
def enclaveDividedSpec : ChangeSpec := { name := "enclaveDivided", fn := fun _ => fun
  | [d1, d2] => { results := [.lit (.bool true)], args := [d1, d2] }
  | _ => none }
def enclaveDividedRow : OpenClaim := { program := "ytkjcnkkmhkcddaa", sum := "317b4effce6f881354bb065241be4b1f27858468e27928b1aed3793bf86face8", func := "limitrophe/limitrophelaw08.EnclaveDivided", spec := "enclaveDivided", unfollowed := true, recurses := true, plainKeys := false, apart := false }
def EnclaveDividedSaid : Prop := enclaveDividedRow.holds Try.pinned (OpenSpec.ofChange enclaveDividedSpec)

/-- ITS FALSE NEIGHBOUR: 'it returns false'. Refute it at one input. -/
def enclaveDividedWrong : ChangeSpec := { name := "enclaveDivided", fn := fun _ => fun
  | [d1, d2] => { results := [.lit (.bool false)], args := [d1, d2] }
  | _ => none }
def EnclaveDividedWrongFalsely : Prop := enclaveDividedRow.holds Try.pinned (OpenSpec.ofChange enclaveDividedWrong)

/- THE SECOND FORM. 'bulk': how many values and letters a reading holds, each counted each time it is reached (what is shared counts as often as it is met; a slice's spare places count too). A statement '..UptoSaid' is the law's where the arguments, and the package variables that the reading takes, are together of bulk at most 1048576: NARROWER than '..Said'. Prove '..Said' where nothing that the law and all that it calls make is longer than what came in: it says more and counts as full. Else prove '..UptoSaid'. A law counts once. -/
mutual
def uptoBulk {H : Type} : DataW H → Nat
  | .lit (.string bytes) => bytes.length + 1
  | .lit _ => 1
  | .nil => 1
  | .ptr d => uptoBulk d + 1
  | .slice elems spare => uptoBulkAll elems + uptoBulkAll spare + 1
  | .agg parts => uptoBulkAll parts + 1
  | .iface _ d => uptoBulk d + 1
  | .map entries => uptoBulkEntries entries + 1
  | .held _ => 1
def uptoBulkAll {H : Type} : List (DataW H) → Nat
  | [] => 0
  | d :: r => uptoBulk d + uptoBulkAll r
def uptoBulkEntries {H : Type} : List (Lit × DataW H) → Nat
  | [] => 0
  | x :: r => uptoBulkEntry x + uptoBulkEntries r
def uptoBulkEntry {H : Type} : Lit × DataW H → Nat
  | (.string bytes, d) => bytes.length + uptoBulk d + 1
  | (_, d) => uptoBulk d + 1
 end
def uptoSmall : (H : Type) → List (DataW H) → Bool := fun _ ds => decide (uptoBulkAll ds ≤ 1048576)
def OpenSpec.upto (s : _root_.Go.ChangeSpec) : _root_.Go.OpenSpec := { _root_.Go.OpenSpec.ofChange s with cond := some uptoSmall }

/-- 'limitrophelaw08.EnclaveDeeds', WHERE WHAT IT READS IS OF BULK AT MOST 1048576: true; the input reads as it did. -/
def enclaveDeedsUptoRow : OpenClaim := { program := "ytkjcnkkmhkcddaa", sum := "317b4effce6f881354bb065241be4b1f27858468e27928b1aed3793bf86face8", func := "limitrophe/limitrophelaw08.EnclaveDeeds", spec := "enclaveDeeds", unfollowed := true, recurses := true, plainKeys := false, apart := false, narrowed := true }
def EnclaveDeedsUptoSaid : Prop := enclaveDeedsUptoRow.holds Try.pinned (OpenSpec.upto enclaveDeedsSpec)

/-- 'limitrophelaw08.EnclaveHoused', WHERE WHAT IT READS IS OF BULK AT MOST 1048576: true; the input reads as it did. -/
def enclaveHousedUptoRow : OpenClaim := { program := "ytkjcnkkmhkcddaa", sum := "317b4effce6f881354bb065241be4b1f27858468e27928b1aed3793bf86face8", func := "limitrophe/limitrophelaw08.EnclaveHoused", spec := "enclaveHoused", unfollowed := true, recurses := true, plainKeys := false, apart := false, narrowed := true }
def EnclaveHousedUptoSaid : Prop := enclaveHousedUptoRow.holds Try.pinned (OpenSpec.upto enclaveHousedSpec)

/-- 'limitrophelaw08.EnclaveRegions', WHERE WHAT IT READS IS OF BULK AT MOST 1048576: true; the input reads as it did. -/
def enclaveRegionsUptoRow : OpenClaim := { program := "ytkjcnkkmhkcddaa", sum := "317b4effce6f881354bb065241be4b1f27858468e27928b1aed3793bf86face8", func := "limitrophe/limitrophelaw08.EnclaveRegions", spec := "enclaveRegions", unfollowed := true, recurses := true, plainKeys := false, apart := false, narrowed := true }
def EnclaveRegionsUptoSaid : Prop := enclaveRegionsUptoRow.holds Try.pinned (OpenSpec.upto enclaveRegionsSpec)

/-- 'limitrophelaw08.EnclaveTurned', WHERE WHAT IT READS IS OF BULK AT MOST 1048576: true; the input reads as it did. -/
def enclaveTurnedUptoRow : OpenClaim := { program := "ytkjcnkkmhkcddaa", sum := "317b4effce6f881354bb065241be4b1f27858468e27928b1aed3793bf86face8", func := "limitrophe/limitrophelaw08.EnclaveTurned", spec := "enclaveTurned", unfollowed := true, recurses := true, plainKeys := false, apart := false, narrowed := true }
def EnclaveTurnedUptoSaid : Prop := enclaveTurnedUptoRow.holds Try.pinned (OpenSpec.upto enclaveTurnedSpec)

/-- 'limitrophelaw08.EnclaveWays', WHERE WHAT IT READS IS OF BULK AT MOST 1048576: true; the input reads as it did. -/
def enclaveWaysUptoRow : OpenClaim := { program := "ytkjcnkkmhkcddaa", sum := "317b4effce6f881354bb065241be4b1f27858468e27928b1aed3793bf86face8", func := "limitrophe/limitrophelaw08.EnclaveWays", spec := "enclaveWays", unfollowed := true, recurses := true, plainKeys := false, apart := false, narrowed := true }
def EnclaveWaysUptoSaid : Prop := enclaveWaysUptoRow.holds Try.pinned (OpenSpec.upto enclaveWaysSpec)

/-- 'limitrophelaw08.EnclaveTold', WHERE WHAT IT READS IS OF BULK AT MOST 1048576: true; the input reads as it did. -/
def enclaveToldUptoRow : OpenClaim := { program := "ytkjcnkkmhkcddaa", sum := "317b4effce6f881354bb065241be4b1f27858468e27928b1aed3793bf86face8", func := "limitrophe/limitrophelaw08.EnclaveTold", spec := "enclaveTold", unfollowed := true, recurses := true, plainKeys := false, apart := false, narrowed := true }
def EnclaveToldUptoSaid : Prop := enclaveToldUptoRow.holds Try.pinned (OpenSpec.upto enclaveToldSpec)

/-- 'limitrophelaw08.EnclaveNested', WHERE WHAT IT READS IS OF BULK AT MOST 1048576: true; the input reads as it did. -/
def enclaveNestedUptoRow : OpenClaim := { program := "ytkjcnkkmhkcddaa", sum := "317b4effce6f881354bb065241be4b1f27858468e27928b1aed3793bf86face8", func := "limitrophe/limitrophelaw08.EnclaveNested", spec := "enclaveNested", unfollowed := true, recurses := true, plainKeys := false, apart := false, narrowed := true }
def EnclaveNestedUptoSaid : Prop := enclaveNestedUptoRow.holds Try.pinned (OpenSpec.upto enclaveNestedSpec)

/-- 'limitrophelaw08.EnclaveDivided', WHERE WHAT IT READS IS OF BULK AT MOST 1048576: true; the input reads as it did. -/
def enclaveDividedUptoRow : OpenClaim := { program := "ytkjcnkkmhkcddaa", sum := "317b4effce6f881354bb065241be4b1f27858468e27928b1aed3793bf86face8", func := "limitrophe/limitrophelaw08.EnclaveDivided", spec := "enclaveDivided", unfollowed := true, recurses := true, plainKeys := false, apart := false, narrowed := true }
def EnclaveDividedUptoSaid : Prop := enclaveDividedUptoRow.holds Try.pinned (OpenSpec.upto enclaveDividedSpec)

end Rows
end Go.Proofs.Ytkjcnkkmhkcddaa
