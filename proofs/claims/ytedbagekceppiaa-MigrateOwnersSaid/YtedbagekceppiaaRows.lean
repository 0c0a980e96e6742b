/-
  No cell of these rows narrows 'for every input' (looked for: loops, veiled, ifaces, maps, wideKeys, modest, calm, conditions, laid).
  DERIVED. THE GIVEN ROWS OF THIS SEAT. 5 by the template 'for every input the law returns true; each argument reads behind the call as it read before'; 0 by the template 'total and deterministic' (their statements: YtedbagekceppiaaTotals.lean).
  GIVEN WITH THE SEED: the statements are not yours to turn. If you find one false, say at which input.
  Laid BY PROGRAM, IN A SANDBOX (cutbox-rows.mjs): the forced cells as the released guide's own fill.sh prints them over the translation 7cfe338408485064… (all of the seat's roots in one cut). By AI agents, Wed Nov 11 2026. No macro, syntax, notation, axiom, sorry.
-/
import Derived.Test.YtedbagekceppiaaChecked
import GoSem.Claim
import GoSem.ClaimJoined
import GoSem.ClaimMapViews
import Derived.JoinedTies
import Derived.KernelRfl
namespace Go.Proofs.Ytedbagekceppiaa
/- THE CELL 'sum', in the pinned program and in every row, IS THE sha256 OF THE DUMP (.gsa) THAT YtedbagekceppiaaProg.lean LOADS. Nothing in Lean hashes anything: it is a label: what it is worth is what the hold of that sum in a sandbox is worth. -/
noncomputable def Try.pinned : Pinned := { name := "ytedbagekceppiaa", sum := "7cfe3384084850642306f638f3f5b09c64f6d3b9bbcf798d141fb056d9ff278e", checked := Try.checked }
namespace Rows
def none {H : Type} : Left H := { results := [], args := [] }

/-- 'clockworklaw33.MigrateStarts': WHATEVER THE INPUT: true; the input reads as it did. -/
def migrateStartsSpec : ChangeSpec := { name := "migrateStarts", fn := fun _ => fun
  | [d1, d2, d3] => { results := [.lit (.bool true)], args := [d1, d2, d3] }
  | _ => none }
def migrateStartsRow : OpenClaim := { program := "ytedbagekceppiaa", sum := "7cfe3384084850642306f638f3f5b09c64f6d3b9bbcf798d141fb056d9ff278e", func := "clockwork/clockworklaw33.MigrateStarts", spec := "migrateStarts", inPlace := ["internal/bytealg.abigen_runtime_cmpstring"], unfollowed := true, recurses := true, apart := false }
def MigrateStartsSaid : Prop := migrateStartsRow.holds Try.pinned (OpenSpec.ofChange migrateStartsSpec)

/-- ITS FALSE NEIGHBOUR: 'it returns false'. Refute it at one input. -/
def migrateStartsWrong : ChangeSpec := { name := "migrateStarts", fn := fun _ => fun
  | [d1, d2, d3] => { results := [.lit (.bool false)], args := [d1, d2, d3] }
  | _ => none }
def MigrateStartsWrongFalsely : Prop := migrateStartsRow.holds Try.pinned (OpenSpec.ofChange migrateStartsWrong)

/-- 'clockworklaw33.MigrateReceives': WHATEVER THE INPUT: true; the input reads as it did. -/
def migrateReceivesSpec : ChangeSpec := { name := "migrateReceives", fn := fun _ => fun
  | [d1, d2] => { results := [.lit (.bool true)], args := [d1, d2] }
  | _ => none }
def migrateReceivesRow : OpenClaim := { program := "ytedbagekceppiaa", sum := "7cfe3384084850642306f638f3f5b09c64f6d3b9bbcf798d141fb056d9ff278e", func := "clockwork/clockworklaw33.MigrateReceives", spec := "migrateReceives", inPlace := ["internal/bytealg.abigen_runtime_cmpstring"], unfollowed := true, recurses := true, apart := false }
def MigrateReceivesSaid : Prop := migrateReceivesRow.holds Try.pinned (OpenSpec.ofChange migrateReceivesSpec)

/-- ITS FALSE NEIGHBOUR: 'it returns false'. Refute it at one input. -/
def migrateReceivesWrong : ChangeSpec := { name := "migrateReceives", fn := fun _ => fun
  | [d1, d2] => { results := [.lit (.bool false)], args := [d1, d2] }
  | _ => none }
def MigrateReceivesWrongFalsely : Prop := migrateReceivesRow.holds Try.pinned (OpenSpec.ofChange migrateReceivesWrong)

/-- 'clockworklaw33.MigrateDelivers': WHATEVER THE INPUT: true; the input reads as it did. -/
def migrateDeliversSpec : ChangeSpec := { name := "migrateDelivers", fn := fun _ => fun
  | [d1, d2, d3] => { results := [.lit (.bool true)], args := [d1, d2, d3] }
  | _ => none }
def migrateDeliversRow : OpenClaim := { program := "ytedbagekceppiaa", sum := "7cfe3384084850642306f638f3f5b09c64f6d3b9bbcf798d141fb056d9ff278e", func := "clockwork/clockworklaw33.MigrateDelivers", spec := "migrateDelivers", inPlace := ["internal/bytealg.abigen_runtime_cmpstring"], unfollowed := true, recurses := true, apart := false }
def MigrateDeliversSaid : Prop := migrateDeliversRow.holds Try.pinned (OpenSpec.ofChange migrateDeliversSpec)

/-- ITS FALSE NEIGHBOUR: 'it returns false'. Refute it at one input. -/
def migrateDeliversWrong : ChangeSpec := { name := "migrateDelivers", fn := fun _ => fun
  | [d1, d2, d3] => { results := [.lit (.bool false)], args := [d1, d2, d3] }
  | _ => none }
def MigrateDeliversWrongFalsely : Prop := migrateDeliversRow.holds Try.pinned (OpenSpec.ofChange migrateDeliversWrong)

/-- 'clockworklaw33.MigrateReturns': WHATEVER THE INPUT: true; the input reads as it did. -/
def migrateReturnsSpec : ChangeSpec := { name := "migrateReturns", fn := fun _ => fun
  | [d1, d2] => { results := [.lit (.bool true)], args := [d1, d2] }
  | _ => none }
def migrateReturnsRow : OpenClaim := { program := "ytedbagekceppiaa", sum := "7cfe3384084850642306f638f3f5b09c64f6d3b9bbcf798d141fb056d9ff278e", func := "clockwork/clockworklaw33.MigrateReturns", spec := "migrateReturns", inPlace := ["internal/bytealg.abigen_runtime_cmpstring"], unfollowed := true, recurses := true, apart := false }
def MigrateReturnsSaid : Prop := migrateReturnsRow.holds Try.pinned (OpenSpec.ofChange migrateReturnsSpec)

/-- ITS FALSE NEIGHBOUR: 'it returns false'. Refute it at one input. -/
def migrateReturnsWrong : ChangeSpec := { name := "migrateReturns", fn := fun _ => fun
  | [d1, d2] => { results := [.lit (.bool false)], args := [d1, d2] }
  | _ => none }
def MigrateReturnsWrongFalsely : Prop := migrateReturnsRow.holds Try.pinned (OpenSpec.ofChange migrateReturnsWrong)

/-- 'clockworklaw33.MigrateOwners': WHATEVER THE INPUT: true; the input reads as it did. -/
def migrateOwnersSpec : ChangeSpec := { name := "migrateOwners", fn := fun _ => fun
  | [d1, d2, d3] => { results := [.lit (.bool true)], args := [d1, d2, d3] }
  | _ => none }
def migrateOwnersRow : OpenClaim := { program := "ytedbagekceppiaa", sum := "7cfe3384084850642306f638f3f5b09c64f6d3b9bbcf798d141fb056d9ff278e", func := "clockwork/clockworklaw33.MigrateOwners", spec := "migrateOwners", inPlace := ["internal/bytealg.abigen_runtime_cmpstring"], unfollowed := true, recurses := true, apart := false }
def MigrateOwnersSaid : Prop := migrateOwnersRow.holds Try.pinned (OpenSpec.ofChange migrateOwnersSpec)

/-- ITS FALSE NEIGHBOUR: 'it returns false'. Refute it at one input. -/
def migrateOwnersWrong : ChangeSpec := { name := "migrateOwners", fn := fun _ => fun
  | [d1, d2, d3] => { results := [.lit (.bool false)], args := [d1, d2, d3] }
  | _ => none }
def MigrateOwnersWrongFalsely : Prop := migrateOwnersRow.holds Try.pinned (OpenSpec.ofChange migrateOwnersWrong)

/- THE SECOND FORM. 'bulk': how many values and letters a reading holds, each counted each time it is reached (what is shared counts as often as it is met; a slice's spare places count too). A statement '..UptoSaid' is the law's where the arguments, and the package variables that the reading takes, are together of bulk at most 1048576: NARROWER than '..Said'. Prove '..Said' where nothing that the law and all that it calls make is longer than what came in: it says more and counts as full. Else prove '..UptoSaid'. A law counts once. -/
mutual
def uptoBulk {H : Type} : DataW H → Nat
  | .lit (.string bytes) => bytes.length + 1
  | .lit _ => 1
  | .nil => 1
  | .ptr d => uptoBulk d + 1
  | .slice elems spare => uptoBulkAll elems + uptoBulkAll spare + 1
  | .agg parts => uptoBulkAll parts + 1
  | .iface _ d => uptoBulk d + 1
  | .map entries => uptoBulkEntries entries + 1
  | .held _ => 1
def uptoBulkAll {H : Type} : List (DataW H) → Nat
  | [] => 0
  | d :: r => uptoBulk d + uptoBulkAll r
def uptoBulkEntries {H : Type} : List (Lit × DataW H) → Nat
  | [] => 0
  | x :: r => uptoBulkEntry x + uptoBulkEntries r
def uptoBulkEntry {H : Type} : Lit × DataW H → Nat
  | (.string bytes, d) => bytes.length + uptoBulk d + 1
  | (_, d) => uptoBulk d + 1
 end
def uptoSmall : (H : Type) → List (DataW H) → Bool := fun _ ds => decide (uptoBulkAll ds ≤ 1048576)
def OpenSpec.upto (s : _root_.Go.ChangeSpec) : _root_.Go.OpenSpec := { _root_.Go.OpenSpec.ofChange s with cond := some uptoSmall }

/-- 'clockworklaw33.MigrateStarts', WHERE WHAT IT READS IS OF BULK AT MOST 1048576: true; the input reads as it did. -/
def migrateStartsUptoRow : OpenClaim := { program := "ytedbagekceppiaa", sum := "7cfe3384084850642306f638f3f5b09c64f6d3b9bbcf798d141fb056d9ff278e", func := "clockwork/clockworklaw33.MigrateStarts", spec := "migrateStarts", inPlace := ["internal/bytealg.abigen_runtime_cmpstring"], unfollowed := true, recurses := true, apart := false, narrowed := true }
def MigrateStartsUptoSaid : Prop := migrateStartsUptoRow.holds Try.pinned (OpenSpec.upto migrateStartsSpec)

/-- 'clockworklaw33.MigrateReceives', WHERE WHAT IT READS IS OF BULK AT MOST 1048576: true; the input reads as it did. -/
def migrateReceivesUptoRow : OpenClaim := { program := "ytedbagekceppiaa", sum := "7cfe3384084850642306f638f3f5b09c64f6d3b9bbcf798d141fb056d9ff278e", func := "clockwork/clockworklaw33.MigrateReceives", spec := "migrateReceives", inPlace := ["internal/bytealg.abigen_runtime_cmpstring"], unfollowed := true, recurses := true, apart := false, narrowed := true }
def MigrateReceivesUptoSaid : Prop := migrateReceivesUptoRow.holds Try.pinned (OpenSpec.upto migrateReceivesSpec)

/-- 'clockworklaw33.MigrateDelivers', WHERE WHAT IT READS IS OF BULK AT MOST 1048576: true; the input reads as it did. -/
def migrateDeliversUptoRow : OpenClaim := { program := "ytedbagekceppiaa", sum := "7cfe3384084850642306f638f3f5b09c64f6d3b9bbcf798d141fb056d9ff278e", func := "clockwork/clockworklaw33.MigrateDelivers", spec := "migrateDelivers", inPlace := ["internal/bytealg.abigen_runtime_cmpstring"], unfollowed := true, recurses := true, apart := false, narrowed := true }
def MigrateDeliversUptoSaid : Prop := migrateDeliversUptoRow.holds Try.pinned (OpenSpec.upto migrateDeliversSpec)

/-- 'clockworklaw33.MigrateReturns', WHERE WHAT IT READS IS OF BULK AT MOST 1048576: true; the input reads as it did. -/
def migrateReturnsUptoRow : OpenClaim := { program := "ytedbagekceppiaa", sum := "7cfe3384084850642306f638f3f5b09c64f6d3b9bbcf798d141fb056d9ff278e", func := "clockwork/clockworklaw33.MigrateReturns", spec := "migrateReturns", inPlace := ["internal/bytealg.abigen_runtime_cmpstring"], unfollowed := true, recurses := true, apart := false, narrowed := true }
def MigrateReturnsUptoSaid : Prop := migrateReturnsUptoRow.holds Try.pinned (OpenSpec.upto migrateReturnsSpec)

/-- 'clockworklaw33.MigrateOwners', WHERE WHAT IT READS IS OF BULK AT MOST 1048576: true; the input reads as it did. -/
def migrateOwnersUptoRow : OpenClaim := { program := "ytedbagekceppiaa", sum := "7cfe3384084850642306f638f3f5b09c64f6d3b9bbcf798d141fb056d9ff278e", func := "clockwork/clockworklaw33.MigrateOwners", spec := "migrateOwners", inPlace := ["internal/bytealg.abigen_runtime_cmpstring"], unfollowed := true, recurses := true, apart := false, narrowed := true }
def MigrateOwnersUptoSaid : Prop := migrateOwnersUptoRow.holds Try.pinned (OpenSpec.upto migrateOwnersSpec)

end Rows
end Go.Proofs.Ytedbagekceppiaa
