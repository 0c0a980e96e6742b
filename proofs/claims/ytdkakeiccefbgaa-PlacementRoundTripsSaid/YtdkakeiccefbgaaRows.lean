/-
  No cell of these rows narrows 'for every input' (looked for: loops, veiled, ifaces, maps, wideKeys, modest, calm, conditions, laid).
  DERIVED. THE GIVEN ROWS OF THIS SEAT. 8 by the template 'for every input the law returns true; each argument reads behind the call as it read before'; 0 by the template 'total and deterministic' (their statements: YtdkakeiccefbgaaTotals.lean).
  GIVEN WITH THE SEED: the statements are not yours to turn. If you find one false, say at which input.
  Laid BY PROGRAM, IN A SANDBOX (cutbox-rows.mjs): the forced cells as the released guide's own fill.sh prints them over the translation b3364ec228498e4e… (all of the seat's roots in one cut). By AI agents, Wed Nov 11 2026. No macro, syntax, notation, axiom, sorry.
-/
import Derived.Test.YtdkakeiccefbgaaChecked
import GoSem.Claim
import GoSem.ClaimJoined
import GoSem.ClaimMapViews
import Derived.JoinedTies
import Derived.KernelRfl
namespace Go.Proofs.Ytdkakeiccefbgaa
/- THE CELL 'sum', in the pinned program and in every row, IS THE sha256 OF THE DUMP (.gsa) THAT YtdkakeiccefbgaaProg.lean LOADS. Nothing in Lean hashes anything: it is a label: what it is worth is what the hold of that sum in a sandbox is worth. -/
noncomputable def Try.pinned : Pinned := { name := "ytdkakeiccefbgaa", sum := "b3364ec228498e4e223e434f3d595b1999cfa7ac90bf811d3fc490aa1e46dbfd", checked := Try.checked }
namespace Rows
def none {H : Type} : Left H := { results := [], args := [] }

/-- 'clockworklaw29.PlacementValid': WHATEVER THE INPUT: true; the input reads as it did. -/
def placementValidSpec : ChangeSpec := { name := "placementValid", fn := fun _ => fun
  | [d1, d2] => { results := [.lit (.bool true)], args := [d1, d2] }
  | _ => none }
def placementValidRow : OpenClaim := { program := "ytdkakeiccefbgaa", sum := "b3364ec228498e4e223e434f3d595b1999cfa7ac90bf811d3fc490aa1e46dbfd", func := "clockwork/clockworklaw29.PlacementValid", spec := "placementValid", inPlace := ["slices.overlaps[clockwork/api.Part]"], unfollowed := true, recurses := true, apart := false }
def PlacementValidSaid : Prop := placementValidRow.holds Try.pinned (OpenSpec.ofChange placementValidSpec)

/-- ITS FALSE NEIGHBOUR: 'it returns false'. Refute it at one input. -/
def placementValidWrong : ChangeSpec := { name := "placementValid", fn := fun _ => fun
  | [d1, d2] => { results := [.lit (.bool false)], args := [d1, d2] }
  | _ => none }
def PlacementValidWrongFalsely : Prop := placementValidRow.holds Try.pinned (OpenSpec.ofChange placementValidWrong)

/-- 'clockworklaw29.PlacementReads': WHATEVER THE INPUT: true; the input reads as it did. -/
def placementReadsSpec : ChangeSpec := { name := "placementReads", fn := fun _ => fun
  | [d1, d2, d3] => { results := [.lit (.bool true)], args := [d1, d2, d3] }
  | _ => none }
def placementReadsRow : OpenClaim := { program := "ytdkakeiccefbgaa", sum := "b3364ec228498e4e223e434f3d595b1999cfa7ac90bf811d3fc490aa1e46dbfd", func := "clockwork/clockworklaw29.PlacementReads", spec := "placementReads", inPlace := ["slices.overlaps[clockwork/api.Part]"], unfollowed := true, recurses := true, apart := false }
def PlacementReadsSaid : Prop := placementReadsRow.holds Try.pinned (OpenSpec.ofChange placementReadsSpec)

/-- ITS FALSE NEIGHBOUR: 'it returns false'. Refute it at one input. -/
def placementReadsWrong : ChangeSpec := { name := "placementReads", fn := fun _ => fun
  | [d1, d2, d3] => { results := [.lit (.bool false)], args := [d1, d2, d3] }
  | _ => none }
def PlacementReadsWrongFalsely : Prop := placementReadsRow.holds Try.pinned (OpenSpec.ofChange placementReadsWrong)

/-- 'clockworklaw29.PlacementChanges': WHATEVER THE INPUT: true; the input reads as it did. -/
def placementChangesSpec : ChangeSpec := { name := "placementChanges", fn := fun _ => fun
  | [d1, d2] => { results := [.lit (.bool true)], args := [d1, d2] }
  | _ => none }
def placementChangesRow : OpenClaim := { program := "ytdkakeiccefbgaa", sum := "b3364ec228498e4e223e434f3d595b1999cfa7ac90bf811d3fc490aa1e46dbfd", func := "clockwork/clockworklaw29.PlacementChanges", spec := "placementChanges", inPlace := ["slices.overlaps[clockwork/api.Part]"], unfollowed := true, recurses := true, apart := false }
def PlacementChangesSaid : Prop := placementChangesRow.holds Try.pinned (OpenSpec.ofChange placementChangesSpec)

/-- ITS FALSE NEIGHBOUR: 'it returns false'. Refute it at one input. -/
def placementChangesWrong : ChangeSpec := { name := "placementChanges", fn := fun _ => fun
  | [d1, d2] => { results := [.lit (.bool false)], args := [d1, d2] }
  | _ => none }
def PlacementChangesWrongFalsely : Prop := placementChangesRow.holds Try.pinned (OpenSpec.ofChange placementChangesWrong)

/-- 'clockworklaw29.PlacementSplits': WHATEVER THE INPUT: true; the input reads as it did. -/
def placementSplitsSpec : ChangeSpec := { name := "placementSplits", fn := fun _ => fun
  | [d1, d2, d3] => { results := [.lit (.bool true)], args := [d1, d2, d3] }
  | _ => none }
def placementSplitsRow : OpenClaim := { program := "ytdkakeiccefbgaa", sum := "b3364ec228498e4e223e434f3d595b1999cfa7ac90bf811d3fc490aa1e46dbfd", func := "clockwork/clockworklaw29.PlacementSplits", spec := "placementSplits", inPlace := ["slices.overlaps[clockwork/api.Part]"], unfollowed := true, recurses := true, apart := false }
def PlacementSplitsSaid : Prop := placementSplitsRow.holds Try.pinned (OpenSpec.ofChange placementSplitsSpec)

/-- ITS FALSE NEIGHBOUR: 'it returns false'. Refute it at one input. -/
def placementSplitsWrong : ChangeSpec := { name := "placementSplits", fn := fun _ => fun
  | [d1, d2, d3] => { results := [.lit (.bool false)], args := [d1, d2, d3] }
  | _ => none }
def PlacementSplitsWrongFalsely : Prop := placementSplitsRow.holds Try.pinned (OpenSpec.ofChange placementSplitsWrong)

/-- 'clockworklaw29.PlacementMerges': WHATEVER THE INPUT: true; the input reads as it did. -/
def placementMergesSpec : ChangeSpec := { name := "placementMerges", fn := fun _ => fun
  | [d1, d2, d3] => { results := [.lit (.bool true)], args := [d1, d2, d3] }
  | _ => none }
def placementMergesRow : OpenClaim := { program := "ytdkakeiccefbgaa", sum := "b3364ec228498e4e223e434f3d595b1999cfa7ac90bf811d3fc490aa1e46dbfd", func := "clockwork/clockworklaw29.PlacementMerges", spec := "placementMerges", inPlace := ["slices.overlaps[clockwork/api.Part]"], unfollowed := true, recurses := true, apart := false }
def PlacementMergesSaid : Prop := placementMergesRow.holds Try.pinned (OpenSpec.ofChange placementMergesSpec)

/-- ITS FALSE NEIGHBOUR: 'it returns false'. Refute it at one input. -/
def placementMergesWrong : ChangeSpec := { name := "placementMerges", fn := fun _ => fun
  | [d1, d2, d3] => { results := [.lit (.bool false)], args := [d1, d2, d3] }
  | _ => none }
def PlacementMergesWrongFalsely : Prop := placementMergesRow.holds Try.pinned (OpenSpec.ofChange placementMergesWrong)

/-- 'clockworklaw29.PlacementOwners': WHATEVER THE INPUT: true; the input reads as it did. -/
def placementOwnersSpec : ChangeSpec := { name := "placementOwners", fn := fun _ => fun
  | [d1, d2] => { results := [.lit (.bool true)], args := [d1, d2] }
  | _ => none }
def placementOwnersRow : OpenClaim := { program := "ytdkakeiccefbgaa", sum := "b3364ec228498e4e223e434f3d595b1999cfa7ac90bf811d3fc490aa1e46dbfd", func := "clockwork/clockworklaw29.PlacementOwners", spec := "placementOwners", inPlace := ["slices.overlaps[clockwork/api.Part]"], unfollowed := true, recurses := true, apart := false }
def PlacementOwnersSaid : Prop := placementOwnersRow.holds Try.pinned (OpenSpec.ofChange placementOwnersSpec)

/-- ITS FALSE NEIGHBOUR: 'it returns false'. Refute it at one input. -/
def placementOwnersWrong : ChangeSpec := { name := "placementOwners", fn := fun _ => fun
  | [d1, d2] => { results := [.lit (.bool false)], args := [d1, d2] }
  | _ => none }
def PlacementOwnersWrongFalsely : Prop := placementOwnersRow.holds Try.pinned (OpenSpec.ofChange placementOwnersWrong)

/-- 'clockworklaw29.PlacementCodes': WHATEVER THE INPUT: true; the input reads as it did. -/
def placementCodesSpec : ChangeSpec := { name := "placementCodes", fn := fun _ => fun
  | [d1, d2, d3] => { results := [.lit (.bool true)], args := [d1, d2, d3] }
  | _ => none }
def placementCodesRow : OpenClaim := { program := "ytdkakeiccefbgaa", sum := "b3364ec228498e4e223e434f3d595b1999cfa7ac90bf811d3fc490aa1e46dbfd", func := "clockwork/clockworklaw29.PlacementCodes", spec := "placementCodes", inPlace := ["slices.overlaps[clockwork/api.Part]"], unfollowed := true, recurses := true, apart := false }
def PlacementCodesSaid : Prop := placementCodesRow.holds Try.pinned (OpenSpec.ofChange placementCodesSpec)

/-- ITS FALSE NEIGHBOUR: 'it returns false'. Refute it at one input. -/
def placementCodesWrong : ChangeSpec := { name := "placementCodes", fn := fun _ => fun
  | [d1, d2, d3] => { results := [.lit (.bool false)], args := [d1, d2, d3] }
  | _ => none }
def PlacementCodesWrongFalsely : Prop := placementCodesRow.holds Try.pinned (OpenSpec.ofChange placementCodesWrong)

/-- 'clockworklaw29.PlacementRoundTrips': WHATEVER THE INPUT: true; the input reads as it did. -/
def placementRoundTripsSpec : ChangeSpec := { name := "placementRoundTrips", fn := fun _ => fun
  | [d1, d2] => { results := [.lit (.bool true)], args := [d1, d2] }
  | _ => none }
def placementRoundTripsRow : OpenClaim := { program := "ytdkakeiccefbgaa", sum := "b3364ec228498e4e223e434f3d595b1999cfa7ac90bf811d3fc490aa1e46dbfd", func := "clockwork/clockworklaw29.PlacementRoundTrips", spec := "placementRoundTrips", inPlace := ["slices.overlaps[clockwork/api.Part]"], unfollowed := true, recurses := true, apart := false }
def PlacementRoundTripsSaid : Prop := placementRoundTripsRow.holds Try.pinned (OpenSpec.ofChange placementRoundTripsSpec)

/-- ITS FALSE NEIGHBOUR: 'it returns false'. Refute it at one input. -/
def placementRoundTripsWrong : ChangeSpec := { name := "placementRoundTrips", fn := fun _ => fun
  | [d1, d2] => { results := [.lit (.bool false)], args := [d1, d2] }
  | _ => none }
def PlacementRoundTripsWrongFalsely : Prop := placementRoundTripsRow.holds Try.pinned (OpenSpec.ofChange placementRoundTripsWrong)

/- THE SECOND FORM. 'bulk': how many values and letters a reading holds, each counted each time it is reached (what is shared counts as often as it is met; a slice's spare places count too). A statement '..UptoSaid' is the law's where the arguments, and the package variables that the reading takes, are together of bulk at most 1048576: NARROWER than '..Said'. Prove '..Said' where nothing that the law and all that it calls make is longer than what came in: it says more and counts as full. Else prove '..UptoSaid'. A law counts once. -/
mutual
def uptoBulk {H : Type} : DataW H → Nat
  | .lit (.string bytes) => bytes.length + 1
  | .lit _ => 1
  | .nil => 1
  | .ptr d => uptoBulk d + 1
  | .slice elems spare => uptoBulkAll elems + uptoBulkAll spare + 1
  | .agg parts => uptoBulkAll parts + 1
  | .iface _ d => uptoBulk d + 1
  | .map entries => uptoBulkEntries entries + 1
  | .held _ => 1
def uptoBulkAll {H : Type} : List (DataW H) → Nat
  | [] => 0
  | d :: r => uptoBulk d + uptoBulkAll r
def uptoBulkEntries {H : Type} : List (Lit × DataW H) → Nat
  | [] => 0
  | x :: r => uptoBulkEntry x + uptoBulkEntries r
def uptoBulkEntry {H : Type} : Lit × DataW H → Nat
  | (.string bytes, d) => bytes.length + uptoBulk d + 1
  | (_, d) => uptoBulk d + 1
 end
def uptoSmall : (H : Type) → List (DataW H) → Bool := fun _ ds => decide (uptoBulkAll ds ≤ 1048576)
def OpenSpec.upto (s : _root_.Go.ChangeSpec) : _root_.Go.OpenSpec := { _root_.Go.OpenSpec.ofChange s with cond := some uptoSmall }

/-- 'clockworklaw29.PlacementValid', WHERE WHAT IT READS IS OF BULK AT MOST 1048576: true; the input reads as it did. -/
def placementValidUptoRow : OpenClaim := { program := "ytdkakeiccefbgaa", sum := "b3364ec228498e4e223e434f3d595b1999cfa7ac90bf811d3fc490aa1e46dbfd", func := "clockwork/clockworklaw29.PlacementValid", spec := "placementValid", inPlace := ["slices.overlaps[clockwork/api.Part]"], unfollowed := true, recurses := true, apart := false, narrowed := true }
def PlacementValidUptoSaid : Prop := placementValidUptoRow.holds Try.pinned (OpenSpec.upto placementValidSpec)

/-- 'clockworklaw29.PlacementReads', WHERE WHAT IT READS IS OF BULK AT MOST 1048576: true; the input reads as it did. -/
def placementReadsUptoRow : OpenClaim := { program := "ytdkakeiccefbgaa", sum := "b3364ec228498e4e223e434f3d595b1999cfa7ac90bf811d3fc490aa1e46dbfd", func := "clockwork/clockworklaw29.PlacementReads", spec := "placementReads", inPlace := ["slices.overlaps[clockwork/api.Part]"], unfollowed := true, recurses := true, apart := false, narrowed := true }
def PlacementReadsUptoSaid : Prop := placementReadsUptoRow.holds Try.pinned (OpenSpec.upto placementReadsSpec)

/-- 'clockworklaw29.PlacementChanges', WHERE WHAT IT READS IS OF BULK AT MOST 1048576: true; the input reads as it did. -/
def placementChangesUptoRow : OpenClaim := { program := "ytdkakeiccefbgaa", sum := "b3364ec228498e4e223e434f3d595b1999cfa7ac90bf811d3fc490aa1e46dbfd", func := "clockwork/clockworklaw29.PlacementChanges", spec := "placementChanges", inPlace := ["slices.overlaps[clockwork/api.Part]"], unfollowed := true, recurses := true, apart := false, narrowed := true }
def PlacementChangesUptoSaid : Prop := placementChangesUptoRow.holds Try.pinned (OpenSpec.upto placementChangesSpec)

/-- 'clockworklaw29.PlacementSplits', WHERE WHAT IT READS IS OF BULK AT MOST 1048576: true; the input reads as it did. -/
def placementSplitsUptoRow : OpenClaim := { program := "ytdkakeiccefbgaa", sum := "b3364ec228498e4e223e434f3d595b1999cfa7ac90bf811d3fc490aa1e46dbfd", func := "clockwork/clockworklaw29.PlacementSplits", spec := "placementSplits", inPlace := ["slices.overlaps[clockwork/api.Part]"], unfollowed := true, recurses := true, apart := false, narrowed := true }
def PlacementSplitsUptoSaid : Prop := placementSplitsUptoRow.holds Try.pinned (OpenSpec.upto placementSplitsSpec)

/-- 'clockworklaw29.PlacementMerges', WHERE WHAT IT READS IS OF BULK AT MOST 1048576: true; the input reads as it did. -/
def placementMergesUptoRow : OpenClaim := { program := "ytdkakeiccefbgaa", sum := "b3364ec228498e4e223e434f3d595b1999cfa7ac90bf811d3fc490aa1e46dbfd", func := "clockwork/clockworklaw29.PlacementMerges", spec := "placementMerges", inPlace := ["slices.overlaps[clockwork/api.Part]"], unfollowed := true, recurses := true, apart := false, narrowed := true }
def PlacementMergesUptoSaid : Prop := placementMergesUptoRow.holds Try.pinned (OpenSpec.upto placementMergesSpec)

/-- 'clockworklaw29.PlacementOwners', WHERE WHAT IT READS IS OF BULK AT MOST 1048576: true; the input reads as it did. -/
def placementOwnersUptoRow : OpenClaim := { program := "ytdkakeiccefbgaa", sum := "b3364ec228498e4e223e434f3d595b1999cfa7ac90bf811d3fc490aa1e46dbfd", func := "clockwork/clockworklaw29.PlacementOwners", spec := "placementOwners", inPlace := ["slices.overlaps[clockwork/api.Part]"], unfollowed := true, recurses := true, apart := false, narrowed := true }
def PlacementOwnersUptoSaid : Prop := placementOwnersUptoRow.holds Try.pinned (OpenSpec.upto placementOwnersSpec)

/-- 'clockworklaw29.PlacementCodes', WHERE WHAT IT READS IS OF BULK AT MOST 1048576: true; the input reads as it did. -/
def placementCodesUptoRow : OpenClaim := { program := "ytdkakeiccefbgaa", sum := "b3364ec228498e4e223e434f3d595b1999cfa7ac90bf811d3fc490aa1e46dbfd", func := "clockwork/clockworklaw29.PlacementCodes", spec := "placementCodes", inPlace := ["slices.overlaps[clockwork/api.Part]"], unfollowed := true, recurses := true, apart := false, narrowed := true }
def PlacementCodesUptoSaid : Prop := placementCodesUptoRow.holds Try.pinned (OpenSpec.upto placementCodesSpec)

/-- 'clockworklaw29.PlacementRoundTrips', WHERE WHAT IT READS IS OF BULK AT MOST 1048576: true; the input reads as it did. -/
def placementRoundTripsUptoRow : OpenClaim := { program := "ytdkakeiccefbgaa", sum := "b3364ec228498e4e223e434f3d595b1999cfa7ac90bf811d3fc490aa1e46dbfd", func := "clockwork/clockworklaw29.PlacementRoundTrips", spec := "placementRoundTrips", inPlace := ["slices.overlaps[clockwork/api.Part]"], unfollowed := true, recurses := true, apart := false, narrowed := true }
def PlacementRoundTripsUptoSaid : Prop := placementRoundTripsUptoRow.holds Try.pinned (OpenSpec.upto placementRoundTripsSpec)

end Rows
end Go.Proofs.Ytdkakeiccefbgaa
