/-
  No cell of these rows narrows 'for every input' (looked for: loops, veiled, ifaces, maps, wideKeys, modest, calm, conditions, laid).
  DERIVED. THE GIVEN ROWS OF THIS SEAT. 5 by the template 'for every input the law returns true; each argument reads behind the call as it read before'; 0 by the template 'total and deterministic' (their statements: YtkbldnpifmjipaaTotals.lean).
  GIVEN WITH THE SEED: the statements are not yours to turn. If you find one false, say at which input.
  Laid BY PROGRAM, IN A SANDBOX (cutbox-rows.mjs): the forced cells as the released guide's own fill.sh prints them over the translation d9cde422162653e3… (all of the seat's roots in one cut). By AI agents, Wed Nov 11 2026. No macro, syntax, notation, axiom, sorry.
-/
import Derived.Test.YtkbldnpifmjipaaChecked
import GoSem.Claim
import GoSem.ClaimJoined
import GoSem.ClaimMapViews
import Derived.JoinedTies
import Derived.KernelRfl
namespace Go.Proofs.Ytkbldnpifmjipaa
/- THE CELL 'sum', in the pinned program and in every row, IS THE sha256 OF THE DUMP (.gsa) THAT YtkbldnpifmjipaaProg.lean LOADS. Nothing in Lean hashes anything: it is a label: what it is worth is what the hold of that sum in a sandbox is worth. -/
noncomputable def Try.pinned : Pinned := { name := "ytkbldnpifmjipaa", sum := "d9cde422162653e3623a19673188663faed3a36b847deea6b7b48d8b64981227", checked := Try.checked }
namespace Rows
def none {H : Type} : Left H := { results := [], args := [] }

/-- 'clockworklaw30.RouteNodes': WHATEVER THE INPUT: true; the input reads as it did. -/
def routeNodesSpec : ChangeSpec := { name := "routeNodes", fn := fun _ => fun
  | [d1, d2] => { results := [.lit (.bool true)], args := [d1, d2] }
  | _ => none }
def routeNodesRow : OpenClaim := { program := "ytkbldnpifmjipaa", sum := "d9cde422162653e3623a19673188663faed3a36b847deea6b7b48d8b64981227", func := "clockwork/clockworklaw30.RouteNodes", spec := "routeNodes", unfollowed := true, recurses := true, apart := false }
def RouteNodesSaid : Prop := routeNodesRow.holds Try.pinned (OpenSpec.ofChange routeNodesSpec)

/-- ITS FALSE NEIGHBOUR: 'it returns false'. Refute it at one input. -/
def routeNodesWrong : ChangeSpec := { name := "routeNodes", fn := fun _ => fun
  | [d1, d2] => { results := [.lit (.bool false)], args := [d1, d2] }
  | _ => none }
def RouteNodesWrongFalsely : Prop := routeNodesRow.holds Try.pinned (OpenSpec.ofChange routeNodesWrong)

/-- 'clockworklaw30.RouteExecutors': WHATEVER THE INPUT: true; the input reads as it did. -/
def routeExecutorsSpec : ChangeSpec := { name := "routeExecutors", fn := fun _ => fun
  | [d1, d2] => { results := [.lit (.bool true)], args := [d1, d2] }
  | _ => none }
def routeExecutorsRow : OpenClaim := { program := "ytkbldnpifmjipaa", sum := "d9cde422162653e3623a19673188663faed3a36b847deea6b7b48d8b64981227", func := "clockwork/clockworklaw30.RouteExecutors", spec := "routeExecutors", unfollowed := true, recurses := true, apart := false }
def RouteExecutorsSaid : Prop := routeExecutorsRow.holds Try.pinned (OpenSpec.ofChange routeExecutorsSpec)

/-- ITS FALSE NEIGHBOUR: 'it returns false'. Refute it at one input. -/
def routeExecutorsWrong : ChangeSpec := { name := "routeExecutors", fn := fun _ => fun
  | [d1, d2] => { results := [.lit (.bool false)], args := [d1, d2] }
  | _ => none }
def RouteExecutorsWrongFalsely : Prop := routeExecutorsRow.holds Try.pinned (OpenSpec.ofChange routeExecutorsWrong)

/-- 'clockworklaw30.RouteMoves': WHATEVER THE INPUT: true; the input reads as it did. -/
def routeMovesSpec : ChangeSpec := { name := "routeMoves", fn := fun _ => fun
  | [d1, d2, d3] => { results := [.lit (.bool true)], args := [d1, d2, d3] }
  | _ => none }
def routeMovesRow : OpenClaim := { program := "ytkbldnpifmjipaa", sum := "d9cde422162653e3623a19673188663faed3a36b847deea6b7b48d8b64981227", func := "clockwork/clockworklaw30.RouteMoves", spec := "routeMoves", unfollowed := true, recurses := true, apart := false }
def RouteMovesSaid : Prop := routeMovesRow.holds Try.pinned (OpenSpec.ofChange routeMovesSpec)

/-- ITS FALSE NEIGHBOUR: 'it returns false'. Refute it at one input. -/
def routeMovesWrong : ChangeSpec := { name := "routeMoves", fn := fun _ => fun
  | [d1, d2, d3] => { results := [.lit (.bool false)], args := [d1, d2, d3] }
  | _ => none }
def RouteMovesWrongFalsely : Prop := routeMovesRow.holds Try.pinned (OpenSpec.ofChange routeMovesWrong)

/-- 'clockworklaw30.RouteProjects': WHATEVER THE INPUT: true; the input reads as it did. -/
def routeProjectsSpec : ChangeSpec := { name := "routeProjects", fn := fun _ => fun
  | [d1, d2, d3] => { results := [.lit (.bool true)], args := [d1, d2, d3] }
  | _ => none }
def routeProjectsRow : OpenClaim := { program := "ytkbldnpifmjipaa", sum := "d9cde422162653e3623a19673188663faed3a36b847deea6b7b48d8b64981227", func := "clockwork/clockworklaw30.RouteProjects", spec := "routeProjects", unfollowed := true, recurses := true, apart := false }
def RouteProjectsSaid : Prop := routeProjectsRow.holds Try.pinned (OpenSpec.ofChange routeProjectsSpec)

/-- ITS FALSE NEIGHBOUR: 'it returns false'. Refute it at one input. -/
def routeProjectsWrong : ChangeSpec := { name := "routeProjects", fn := fun _ => fun
  | [d1, d2, d3] => { results := [.lit (.bool false)], args := [d1, d2, d3] }
  | _ => none }
def RouteProjectsWrongFalsely : Prop := routeProjectsRow.holds Try.pinned (OpenSpec.ofChange routeProjectsWrong)

/-- 'clockworklaw30.RoutePartition': WHATEVER THE INPUT: true; the input reads as it did. -/
def routePartitionSpec : ChangeSpec := { name := "routePartition", fn := fun _ => fun
  | [d1, d2] => { results := [.lit (.bool true)], args := [d1, d2] }
  | _ => none }
def routePartitionRow : OpenClaim := { program := "ytkbldnpifmjipaa", sum := "d9cde422162653e3623a19673188663faed3a36b847deea6b7b48d8b64981227", func := "clockwork/clockworklaw30.RoutePartition", spec := "routePartition", unfollowed := true, recurses := true, apart := false }
def RoutePartitionSaid : Prop := routePartitionRow.holds Try.pinned (OpenSpec.ofChange routePartitionSpec)

/-- ITS FALSE NEIGHBOUR: 'it returns false'. Refute it at one input. -/
def routePartitionWrong : ChangeSpec := { name := "routePartition", fn := fun _ => fun
  | [d1, d2] => { results := [.lit (.bool false)], args := [d1, d2] }
  | _ => none }
def RoutePartitionWrongFalsely : Prop := routePartitionRow.holds Try.pinned (OpenSpec.ofChange routePartitionWrong)

/- THE SECOND FORM. 'bulk': how many values and letters a reading holds, each counted each time it is reached (what is shared counts as often as it is met; a slice's spare places count too). A statement '..UptoSaid' is the law's where the arguments, and the package variables that the reading takes, are together of bulk at most 1048576: NARROWER than '..Said'. Prove '..Said' where nothing that the law and all that it calls make is longer than what came in: it says more and counts as full. Else prove '..UptoSaid'. A law counts once. -/
mutual
def uptoBulk {H : Type} : DataW H → Nat
  | .lit (.string bytes) => bytes.length + 1
  | .lit _ => 1
  | .nil => 1
  | .ptr d => uptoBulk d + 1
  | .slice elems spare => uptoBulkAll elems + uptoBulkAll spare + 1
  | .agg parts => uptoBulkAll parts + 1
  | .iface _ d => uptoBulk d + 1
  | .map entries => uptoBulkEntries entries + 1
  | .held _ => 1
def uptoBulkAll {H : Type} : List (DataW H) → Nat
  | [] => 0
  | d :: r => uptoBulk d + uptoBulkAll r
def uptoBulkEntries {H : Type} : List (Lit × DataW H) → Nat
  | [] => 0
  | x :: r => uptoBulkEntry x + uptoBulkEntries r
def uptoBulkEntry {H : Type} : Lit × DataW H → Nat
  | (.string bytes, d) => bytes.length + uptoBulk d + 1
  | (_, d) => uptoBulk d + 1
 end
def uptoSmall : (H : Type) → List (DataW H) → Bool := fun _ ds => decide (uptoBulkAll ds ≤ 1048576)
def OpenSpec.upto (s : _root_.Go.ChangeSpec) : _root_.Go.OpenSpec := { _root_.Go.OpenSpec.ofChange s with cond := some uptoSmall }

/-- 'clockworklaw30.RouteNodes', WHERE WHAT IT READS IS OF BULK AT MOST 1048576: true; the input reads as it did. -/
def routeNodesUptoRow : OpenClaim := { program := "ytkbldnpifmjipaa", sum := "d9cde422162653e3623a19673188663faed3a36b847deea6b7b48d8b64981227", func := "clockwork/clockworklaw30.RouteNodes", spec := "routeNodes", unfollowed := true, recurses := true, apart := false, narrowed := true }
def RouteNodesUptoSaid : Prop := routeNodesUptoRow.holds Try.pinned (OpenSpec.upto routeNodesSpec)

/-- 'clockworklaw30.RouteExecutors', WHERE WHAT IT READS IS OF BULK AT MOST 1048576: true; the input reads as it did. -/
def routeExecutorsUptoRow : OpenClaim := { program := "ytkbldnpifmjipaa", sum := "d9cde422162653e3623a19673188663faed3a36b847deea6b7b48d8b64981227", func := "clockwork/clockworklaw30.RouteExecutors", spec := "routeExecutors", unfollowed := true, recurses := true, apart := false, narrowed := true }
def RouteExecutorsUptoSaid : Prop := routeExecutorsUptoRow.holds Try.pinned (OpenSpec.upto routeExecutorsSpec)

/-- 'clockworklaw30.RouteMoves', WHERE WHAT IT READS IS OF BULK AT MOST 1048576: true; the input reads as it did. -/
def routeMovesUptoRow : OpenClaim := { program := "ytkbldnpifmjipaa", sum := "d9cde422162653e3623a19673188663faed3a36b847deea6b7b48d8b64981227", func := "clockwork/clockworklaw30.RouteMoves", spec := "routeMoves", unfollowed := true, recurses := true, apart := false, narrowed := true }
def RouteMovesUptoSaid : Prop := routeMovesUptoRow.holds Try.pinned (OpenSpec.upto routeMovesSpec)

/-- 'clockworklaw30.RouteProjects', WHERE WHAT IT READS IS OF BULK AT MOST 1048576: true; the input reads as it did. -/
def routeProjectsUptoRow : OpenClaim := { program := "ytkbldnpifmjipaa", sum := "d9cde422162653e3623a19673188663faed3a36b847deea6b7b48d8b64981227", func := "clockwork/clockworklaw30.RouteProjects", spec := "routeProjects", unfollowed := true, recurses := true, apart := false, narrowed := true }
def RouteProjectsUptoSaid : Prop := routeProjectsUptoRow.holds Try.pinned (OpenSpec.upto routeProjectsSpec)

/-- 'clockworklaw30.RoutePartition', WHERE WHAT IT READS IS OF BULK AT MOST 1048576: true; the input reads as it did. -/
def routePartitionUptoRow : OpenClaim := { program := "ytkbldnpifmjipaa", sum := "d9cde422162653e3623a19673188663faed3a36b847deea6b7b48d8b64981227", func := "clockwork/clockworklaw30.RoutePartition", spec := "routePartition", unfollowed := true, recurses := true, apart := false, narrowed := true }
def RoutePartitionUptoSaid : Prop := routePartitionUptoRow.holds Try.pinned (OpenSpec.upto routePartitionSpec)

end Rows
end Go.Proofs.Ytkbldnpifmjipaa
