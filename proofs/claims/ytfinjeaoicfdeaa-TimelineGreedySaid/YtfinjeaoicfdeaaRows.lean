/-
  No cell of these rows narrows 'for every input' (looked for: loops, veiled, ifaces, maps, wideKeys, modest, calm, conditions, laid).
  DERIVED. THE GIVEN ROWS OF THIS SEAT. 6 by the template 'for every input the law returns true; each argument reads behind the call as it read before'; 0 by the template 'total and deterministic' (their statements: YtfinjeaoicfdeaaTotals.lean).
  GIVEN WITH THE SEED: the statements are not yours to turn. If you find one false, say at which input.
  Laid BY PROGRAM, IN A SANDBOX (cutbox-rows.mjs): the forced cells as the released guide's own fill.sh prints them over the translation f3af221b5beb405d… (all of the seat's roots in one cut). By AI agents, Wed Nov 11 2026. No macro, syntax, notation, axiom, sorry.
-/
import Derived.Test.YtfinjeaoicfdeaaChecked
import GoSem.Claim
import GoSem.ClaimJoined
import GoSem.ClaimMapViews
import Derived.JoinedTies
import Derived.KernelRfl
namespace Go.Proofs.Ytfinjeaoicfdeaa
/- THE CELL 'sum', in the pinned program and in every row, IS THE sha256 OF THE DUMP (.gsa) THAT YtfinjeaoicfdeaaProg.lean LOADS. Nothing in Lean hashes anything: it is a label: what it is worth is what the hold of that sum in a sandbox is worth. -/
noncomputable def Try.pinned : Pinned := { name := "ytfinjeaoicfdeaa", sum := "f3af221b5beb405df36b4b0c9bb42e50278c1f1ce0e3b9008f8b97a2376d70a2", checked := Try.checked }
namespace Rows
def none {H : Type} : Left H := { results := [], args := [] }

/-- 'clockworklaw28.TimelineVersions': WHATEVER THE INPUT: true; the input reads as it did. -/
def timelineVersionsSpec : ChangeSpec := { name := "timelineVersions", fn := fun _ => fun
  | [d1, d2] => { results := [.lit (.bool true)], args := [d1, d2] }
  | _ => none }
def timelineVersionsRow : OpenClaim := { program := "ytfinjeaoicfdeaa", sum := "f3af221b5beb405df36b4b0c9bb42e50278c1f1ce0e3b9008f8b97a2376d70a2", func := "clockwork/clockworklaw28.TimelineVersions", spec := "timelineVersions", unfollowed := true, recurses := true, apart := false }
def TimelineVersionsSaid : Prop := timelineVersionsRow.holds Try.pinned (OpenSpec.ofChange timelineVersionsSpec)

/-- ITS FALSE NEIGHBOUR: 'it returns false'. Refute it at one input. -/
def timelineVersionsWrong : ChangeSpec := { name := "timelineVersions", fn := fun _ => fun
  | [d1, d2] => { results := [.lit (.bool false)], args := [d1, d2] }
  | _ => none }
def TimelineVersionsWrongFalsely : Prop := timelineVersionsRow.holds Try.pinned (OpenSpec.ofChange timelineVersionsWrong)

/-- 'clockworklaw28.TimelineLocks': WHATEVER THE INPUT: true; the input reads as it did. -/
def timelineLocksSpec : ChangeSpec := { name := "timelineLocks", fn := fun _ => fun
  | [d1, d2] => { results := [.lit (.bool true)], args := [d1, d2] }
  | _ => none }
def timelineLocksRow : OpenClaim := { program := "ytfinjeaoicfdeaa", sum := "f3af221b5beb405df36b4b0c9bb42e50278c1f1ce0e3b9008f8b97a2376d70a2", func := "clockwork/clockworklaw28.TimelineLocks", spec := "timelineLocks", unfollowed := true, recurses := true, apart := false }
def TimelineLocksSaid : Prop := timelineLocksRow.holds Try.pinned (OpenSpec.ofChange timelineLocksSpec)

/-- ITS FALSE NEIGHBOUR: 'it returns false'. Refute it at one input. -/
def timelineLocksWrong : ChangeSpec := { name := "timelineLocks", fn := fun _ => fun
  | [d1, d2] => { results := [.lit (.bool false)], args := [d1, d2] }
  | _ => none }
def TimelineLocksWrongFalsely : Prop := timelineLocksRow.holds Try.pinned (OpenSpec.ofChange timelineLocksWrong)

/-- 'clockworklaw28.TimelineLimits': WHATEVER THE INPUT: true; the input reads as it did. -/
def timelineLimitsSpec : ChangeSpec := { name := "timelineLimits", fn := fun _ => fun
  | [d1, d2, d3, d4] => { results := [.lit (.bool true)], args := [d1, d2, d3, d4] }
  | _ => none }
def timelineLimitsRow : OpenClaim := { program := "ytfinjeaoicfdeaa", sum := "f3af221b5beb405df36b4b0c9bb42e50278c1f1ce0e3b9008f8b97a2376d70a2", func := "clockwork/clockworklaw28.TimelineLimits", spec := "timelineLimits", unfollowed := true, recurses := true, apart := false }
def TimelineLimitsSaid : Prop := timelineLimitsRow.holds Try.pinned (OpenSpec.ofChange timelineLimitsSpec)

/-- ITS FALSE NEIGHBOUR: 'it returns false'. Refute it at one input. -/
def timelineLimitsWrong : ChangeSpec := { name := "timelineLimits", fn := fun _ => fun
  | [d1, d2, d3, d4] => { results := [.lit (.bool false)], args := [d1, d2, d3, d4] }
  | _ => none }
def TimelineLimitsWrongFalsely : Prop := timelineLimitsRow.holds Try.pinned (OpenSpec.ofChange timelineLimitsWrong)

/-- 'clockworklaw28.TimelineEnough': WHATEVER THE INPUT: true; the input reads as it did. -/
def timelineEnoughSpec : ChangeSpec := { name := "timelineEnough", fn := fun _ => fun
  | [d1, d2] => { results := [.lit (.bool true)], args := [d1, d2] }
  | _ => none }
def timelineEnoughRow : OpenClaim := { program := "ytfinjeaoicfdeaa", sum := "f3af221b5beb405df36b4b0c9bb42e50278c1f1ce0e3b9008f8b97a2376d70a2", func := "clockwork/clockworklaw28.TimelineEnough", spec := "timelineEnough", unfollowed := true, recurses := true, apart := false }
def TimelineEnoughSaid : Prop := timelineEnoughRow.holds Try.pinned (OpenSpec.ofChange timelineEnoughSpec)

/-- ITS FALSE NEIGHBOUR: 'it returns false'. Refute it at one input. -/
def timelineEnoughWrong : ChangeSpec := { name := "timelineEnough", fn := fun _ => fun
  | [d1, d2] => { results := [.lit (.bool false)], args := [d1, d2] }
  | _ => none }
def TimelineEnoughWrongFalsely : Prop := timelineEnoughRow.holds Try.pinned (OpenSpec.ofChange timelineEnoughWrong)

/-- 'clockworklaw28.TimelineChecks': WHATEVER THE INPUT: true; the input reads as it did. -/
def timelineChecksSpec : ChangeSpec := { name := "timelineChecks", fn := fun _ => fun
  | [d1, d2, d3, d4] => { results := [.lit (.bool true)], args := [d1, d2, d3, d4] }
  | _ => none }
def timelineChecksRow : OpenClaim := { program := "ytfinjeaoicfdeaa", sum := "f3af221b5beb405df36b4b0c9bb42e50278c1f1ce0e3b9008f8b97a2376d70a2", func := "clockwork/clockworklaw28.TimelineChecks", spec := "timelineChecks", unfollowed := true, recurses := true, apart := false }
def TimelineChecksSaid : Prop := timelineChecksRow.holds Try.pinned (OpenSpec.ofChange timelineChecksSpec)

/-- ITS FALSE NEIGHBOUR: 'it returns false'. Refute it at one input. -/
def timelineChecksWrong : ChangeSpec := { name := "timelineChecks", fn := fun _ => fun
  | [d1, d2, d3, d4] => { results := [.lit (.bool false)], args := [d1, d2, d3, d4] }
  | _ => none }
def TimelineChecksWrongFalsely : Prop := timelineChecksRow.holds Try.pinned (OpenSpec.ofChange timelineChecksWrong)

/-- 'clockworklaw28.TimelineGreedy': WHATEVER THE INPUT: true; the input reads as it did. -/
def timelineGreedySpec : ChangeSpec := { name := "timelineGreedy", fn := fun _ => fun
  | [d1, d2, d3] => { results := [.lit (.bool true)], args := [d1, d2, d3] }
  | _ => none }
def timelineGreedyRow : OpenClaim := { program := "ytfinjeaoicfdeaa", sum := "f3af221b5beb405df36b4b0c9bb42e50278c1f1ce0e3b9008f8b97a2376d70a2", func := "clockwork/clockworklaw28.TimelineGreedy", spec := "timelineGreedy", unfollowed := true, recurses := true, apart := false }
def TimelineGreedySaid : Prop := timelineGreedyRow.holds Try.pinned (OpenSpec.ofChange timelineGreedySpec)

/-- ITS FALSE NEIGHBOUR: 'it returns false'. Refute it at one input. -/
def timelineGreedyWrong : ChangeSpec := { name := "timelineGreedy", fn := fun _ => fun
  | [d1, d2, d3] => { results := [.lit (.bool false)], args := [d1, d2, d3] }
  | _ => none }
def TimelineGreedyWrongFalsely : Prop := timelineGreedyRow.holds Try.pinned (OpenSpec.ofChange timelineGreedyWrong)

/- THE SECOND FORM. 'bulk': how many values and letters a reading holds, each counted each time it is reached (what is shared counts as often as it is met; a slice's spare places count too). A statement '..UptoSaid' is the law's where the arguments, and the package variables that the reading takes, are together of bulk at most 1048576: NARROWER than '..Said'. Prove '..Said' where nothing that the law and all that it calls make is longer than what came in: it says more and counts as full. Else prove '..UptoSaid'. A law counts once. -/
mutual
def uptoBulk {H : Type} : DataW H → Nat
  | .lit (.string bytes) => bytes.length + 1
  | .lit _ => 1
  | .nil => 1
  | .ptr d => uptoBulk d + 1
  | .slice elems spare => uptoBulkAll elems + uptoBulkAll spare + 1
  | .agg parts => uptoBulkAll parts + 1
  | .iface _ d => uptoBulk d + 1
  | .map entries => uptoBulkEntries entries + 1
  | .held _ => 1
def uptoBulkAll {H : Type} : List (DataW H) → Nat
  | [] => 0
  | d :: r => uptoBulk d + uptoBulkAll r
def uptoBulkEntries {H : Type} : List (Lit × DataW H) → Nat
  | [] => 0
  | x :: r => uptoBulkEntry x + uptoBulkEntries r
def uptoBulkEntry {H : Type} : Lit × DataW H → Nat
  | (.string bytes, d) => bytes.length + uptoBulk d + 1
  | (_, d) => uptoBulk d + 1
 end
def uptoSmall : (H : Type) → List (DataW H) → Bool := fun _ ds => decide (uptoBulkAll ds ≤ 1048576)
def OpenSpec.upto (s : _root_.Go.ChangeSpec) : _root_.Go.OpenSpec := { _root_.Go.OpenSpec.ofChange s with cond := some uptoSmall }

/-- 'clockworklaw28.TimelineVersions', WHERE WHAT IT READS IS OF BULK AT MOST 1048576: true; the input reads as it did. -/
def timelineVersionsUptoRow : OpenClaim := { program := "ytfinjeaoicfdeaa", sum := "f3af221b5beb405df36b4b0c9bb42e50278c1f1ce0e3b9008f8b97a2376d70a2", func := "clockwork/clockworklaw28.TimelineVersions", spec := "timelineVersions", unfollowed := true, recurses := true, apart := false, narrowed := true }
def TimelineVersionsUptoSaid : Prop := timelineVersionsUptoRow.holds Try.pinned (OpenSpec.upto timelineVersionsSpec)

/-- 'clockworklaw28.TimelineLocks', WHERE WHAT IT READS IS OF BULK AT MOST 1048576: true; the input reads as it did. -/
def timelineLocksUptoRow : OpenClaim := { program := "ytfinjeaoicfdeaa", sum := "f3af221b5beb405df36b4b0c9bb42e50278c1f1ce0e3b9008f8b97a2376d70a2", func := "clockwork/clockworklaw28.TimelineLocks", spec := "timelineLocks", unfollowed := true, recurses := true, apart := false, narrowed := true }
def TimelineLocksUptoSaid : Prop := timelineLocksUptoRow.holds Try.pinned (OpenSpec.upto timelineLocksSpec)

/-- 'clockworklaw28.TimelineLimits', WHERE WHAT IT READS IS OF BULK AT MOST 1048576: true; the input reads as it did. -/
def timelineLimitsUptoRow : OpenClaim := { program := "ytfinjeaoicfdeaa", sum := "f3af221b5beb405df36b4b0c9bb42e50278c1f1ce0e3b9008f8b97a2376d70a2", func := "clockwork/clockworklaw28.TimelineLimits", spec := "timelineLimits", unfollowed := true, recurses := true, apart := false, narrowed := true }
def TimelineLimitsUptoSaid : Prop := timelineLimitsUptoRow.holds Try.pinned (OpenSpec.upto timelineLimitsSpec)

/-- 'clockworklaw28.TimelineEnough', WHERE WHAT IT READS IS OF BULK AT MOST 1048576: true; the input reads as it did. -/
def timelineEnoughUptoRow : OpenClaim := { program := "ytfinjeaoicfdeaa", sum := "f3af221b5beb405df36b4b0c9bb42e50278c1f1ce0e3b9008f8b97a2376d70a2", func := "clockwork/clockworklaw28.TimelineEnough", spec := "timelineEnough", unfollowed := true, recurses := true, apart := false, narrowed := true }
def TimelineEnoughUptoSaid : Prop := timelineEnoughUptoRow.holds Try.pinned (OpenSpec.upto timelineEnoughSpec)

/-- 'clockworklaw28.TimelineChecks', WHERE WHAT IT READS IS OF BULK AT MOST 1048576: true; the input reads as it did. -/
def timelineChecksUptoRow : OpenClaim := { program := "ytfinjeaoicfdeaa", sum := "f3af221b5beb405df36b4b0c9bb42e50278c1f1ce0e3b9008f8b97a2376d70a2", func := "clockwork/clockworklaw28.TimelineChecks", spec := "timelineChecks", unfollowed := true, recurses := true, apart := false, narrowed := true }
def TimelineChecksUptoSaid : Prop := timelineChecksUptoRow.holds Try.pinned (OpenSpec.upto timelineChecksSpec)

/-- 'clockworklaw28.TimelineGreedy', WHERE WHAT IT READS IS OF BULK AT MOST 1048576: true; the input reads as it did. -/
def timelineGreedyUptoRow : OpenClaim := { program := "ytfinjeaoicfdeaa", sum := "f3af221b5beb405df36b4b0c9bb42e50278c1f1ce0e3b9008f8b97a2376d70a2", func := "clockwork/clockworklaw28.TimelineGreedy", spec := "timelineGreedy", unfollowed := true, recurses := true, apart := false, narrowed := true }
def TimelineGreedyUptoSaid : Prop := timelineGreedyUptoRow.holds Try.pinned (OpenSpec.upto timelineGreedySpec)

end Rows
end Go.Proofs.Ytfinjeaoicfdeaa
