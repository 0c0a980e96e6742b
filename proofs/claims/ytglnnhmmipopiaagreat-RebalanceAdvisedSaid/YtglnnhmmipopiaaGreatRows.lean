/-
  No cell of these rows narrows 'for every input' (looked for: loops, veiled, ifaces, maps, wideKeys, modest, calm, conditions, laid).
  DERIVED. THE GIVEN ROWS OF THIS SEAT. 5 by the template 'for every input the law returns true; each argument reads behind the call as it read before'; 0 by the template 'total and deterministic' (their statements: YtglnnhmmipopiaaGreatTotals.lean).
  GIVEN WITH THE SEED: the statements are not yours to turn. If you find one false, say at which input.
  Laid BY PROGRAM, IN A SANDBOX (cutbox-rows.mjs): the forced cells as the released guide's own fill.sh prints them over the translation 0e79c3e17af79f31… (all of the seat's roots in one cut). By AI agents, Wed Nov 11 2026. No macro, syntax, notation, axiom, sorry.
-/
import Derived.Test.YtglnnhmmipopiaaGreatChecked
import GoSem.Claim
import GoSem.ClaimJoined
import GoSem.ClaimMapViews
import Derived.JoinedTies
import Derived.KernelRfl
namespace Go.Proofs.YtglnnhmmipopiaaGreat
/- THE CELL 'sum', in the pinned program and in every row, IS THE sha256 OF THE DUMP (.gsa) THAT YtglnnhmmipopiaaGreatProg.lean LOADS. Nothing in Lean hashes anything: it is a label: what it is worth is what the hold of that sum in a sandbox is worth. -/
noncomputable def Tryz.pinned : Pinned := { name := "ytglnnhmmipopiaagreat", sum := "0e79c3e17af79f316df3254b2099449f5ed4161f7d33c0cc0160f635f7616556", checked := Tryz.checked }
namespace Rows
def none {H : Type} : Left H := { results := [], args := [] }

/-- 'clockworklaw35.RebalanceKeeps': WHATEVER THE INPUT: true; the input reads as it did. -/
def rebalanceKeepsSpec : ChangeSpec := { name := "rebalanceKeeps", fn := fun _ => fun
  | [d1, d2, d3, d4] => { results := [.lit (.bool true)], args := [d1, d2, d3, d4] }
  | _ => none }
def rebalanceKeepsRow : OpenClaim := { program := "ytglnnhmmipopiaagreat", sum := "0e79c3e17af79f316df3254b2099449f5ed4161f7d33c0cc0160f635f7616556", func := "clockwork/clockworklaw35.RebalanceKeeps", spec := "rebalanceKeeps", inPlace := ["internal/bytealg.abigen_runtime_cmpstring", "slices.overlaps[clockwork/api.Part]"], unfollowed := true, recurses := true, apart := false }
def RebalanceKeepsSaid : Prop := rebalanceKeepsRow.holds Tryz.pinned (OpenSpec.ofChange rebalanceKeepsSpec)

/-- ITS FALSE NEIGHBOUR: 'it returns false'. Refute it at one input. -/
def rebalanceKeepsWrong : ChangeSpec := { name := "rebalanceKeeps", fn := fun _ => fun
  | [d1, d2, d3, d4] => { results := [.lit (.bool false)], args := [d1, d2, d3, d4] }
  | _ => none }
def RebalanceKeepsWrongFalsely : Prop := rebalanceKeepsRow.holds Tryz.pinned (OpenSpec.ofChange rebalanceKeepsWrong)

/-- 'clockworklaw35.RebalanceCounts': WHATEVER THE INPUT: true; the input reads as it did. -/
def rebalanceCountsSpec : ChangeSpec := { name := "rebalanceCounts", fn := fun _ => fun
  | [d1, d2, d3] => { results := [.lit (.bool true)], args := [d1, d2, d3] }
  | _ => none }
def rebalanceCountsRow : OpenClaim := { program := "ytglnnhmmipopiaagreat", sum := "0e79c3e17af79f316df3254b2099449f5ed4161f7d33c0cc0160f635f7616556", func := "clockwork/clockworklaw35.RebalanceCounts", spec := "rebalanceCounts", inPlace := ["internal/bytealg.abigen_runtime_cmpstring", "slices.overlaps[clockwork/api.Part]"], unfollowed := true, recurses := true, apart := false }
def RebalanceCountsSaid : Prop := rebalanceCountsRow.holds Tryz.pinned (OpenSpec.ofChange rebalanceCountsSpec)

/-- ITS FALSE NEIGHBOUR: 'it returns false'. Refute it at one input. -/
def rebalanceCountsWrong : ChangeSpec := { name := "rebalanceCounts", fn := fun _ => fun
  | [d1, d2, d3] => { results := [.lit (.bool false)], args := [d1, d2, d3] }
  | _ => none }
def RebalanceCountsWrongFalsely : Prop := rebalanceCountsRow.holds Tryz.pinned (OpenSpec.ofChange rebalanceCountsWrong)

/-- 'clockworklaw35.RebalanceApplies': WHATEVER THE INPUT: true; the input reads as it did. -/
def rebalanceAppliesSpec : ChangeSpec := { name := "rebalanceApplies", fn := fun _ => fun
  | [d1, d2, d3] => { results := [.lit (.bool true)], args := [d1, d2, d3] }
  | _ => none }
def rebalanceAppliesRow : OpenClaim := { program := "ytglnnhmmipopiaagreat", sum := "0e79c3e17af79f316df3254b2099449f5ed4161f7d33c0cc0160f635f7616556", func := "clockwork/clockworklaw35.RebalanceApplies", spec := "rebalanceApplies", inPlace := ["internal/bytealg.abigen_runtime_cmpstring", "slices.overlaps[clockwork/api.Part]"], unfollowed := true, recurses := true, apart := false }
def RebalanceAppliesSaid : Prop := rebalanceAppliesRow.holds Tryz.pinned (OpenSpec.ofChange rebalanceAppliesSpec)

/-- ITS FALSE NEIGHBOUR: 'it returns false'. Refute it at one input. -/
def rebalanceAppliesWrong : ChangeSpec := { name := "rebalanceApplies", fn := fun _ => fun
  | [d1, d2, d3] => { results := [.lit (.bool false)], args := [d1, d2, d3] }
  | _ => none }
def RebalanceAppliesWrongFalsely : Prop := rebalanceAppliesRow.holds Tryz.pinned (OpenSpec.ofChange rebalanceAppliesWrong)

/-- 'clockworklaw35.RebalanceAdvises': WHATEVER THE INPUT: true; the input reads as it did. -/
def rebalanceAdvisesSpec : ChangeSpec := { name := "rebalanceAdvises", fn := fun _ => fun
  | [d1, d2, d3, d4] => { results := [.lit (.bool true)], args := [d1, d2, d3, d4] }
  | _ => none }
def rebalanceAdvisesRow : OpenClaim := { program := "ytglnnhmmipopiaagreat", sum := "0e79c3e17af79f316df3254b2099449f5ed4161f7d33c0cc0160f635f7616556", func := "clockwork/clockworklaw35.RebalanceAdvises", spec := "rebalanceAdvises", inPlace := ["internal/bytealg.abigen_runtime_cmpstring", "slices.overlaps[clockwork/api.Part]"], unfollowed := true, recurses := true, apart := false }
def RebalanceAdvisesSaid : Prop := rebalanceAdvisesRow.holds Tryz.pinned (OpenSpec.ofChange rebalanceAdvisesSpec)

/-- ITS FALSE NEIGHBOUR: 'it returns false'. Refute it at one input. -/
def rebalanceAdvisesWrong : ChangeSpec := { name := "rebalanceAdvises", fn := fun _ => fun
  | [d1, d2, d3, d4] => { results := [.lit (.bool false)], args := [d1, d2, d3, d4] }
  | _ => none }
def RebalanceAdvisesWrongFalsely : Prop := rebalanceAdvisesRow.holds Tryz.pinned (OpenSpec.ofChange rebalanceAdvisesWrong)

/-- 'clockworklaw35.RebalanceAdvised': WHATEVER THE INPUT: true; the input reads as it did. -/
def rebalanceAdvisedSpec : ChangeSpec := { name := "rebalanceAdvised", fn := fun _ => fun
  | [d1, d2, d3, d4] => { results := [.lit (.bool true)], args := [d1, d2, d3, d4] }
  | _ => none }
def rebalanceAdvisedRow : OpenClaim := { program := "ytglnnhmmipopiaagreat", sum := "0e79c3e17af79f316df3254b2099449f5ed4161f7d33c0cc0160f635f7616556", func := "clockwork/clockworklaw35.RebalanceAdvised", spec := "rebalanceAdvised", inPlace := ["internal/bytealg.abigen_runtime_cmpstring", "slices.overlaps[clockwork/api.Part]"], unfollowed := true, recurses := true, apart := false }
def RebalanceAdvisedSaid : Prop := rebalanceAdvisedRow.holds Tryz.pinned (OpenSpec.ofChange rebalanceAdvisedSpec)

/-- ITS FALSE NEIGHBOUR: 'it returns false'. Refute it at one input. -/
def rebalanceAdvisedWrong : ChangeSpec := { name := "rebalanceAdvised", fn := fun _ => fun
  | [d1, d2, d3, d4] => { results := [.lit (.bool false)], args := [d1, d2, d3, d4] }
  | _ => none }
def RebalanceAdvisedWrongFalsely : Prop := rebalanceAdvisedRow.holds Tryz.pinned (OpenSpec.ofChange rebalanceAdvisedWrong)

/- THE SECOND FORM. 'bulk': how many values and letters a reading holds, each counted each time it is reached (what is shared counts as often as it is met; a slice's spare places count too). A statement '..UptoSaid' is the law's where the arguments, and the package variables that the reading takes, are together of bulk at most 1048576: NARROWER than '..Said'. Prove '..Said' where nothing that the law and all that it calls make is longer than what came in: it says more and counts as full. Else prove '..UptoSaid'. A law counts once. -/
mutual
def uptoBulk {H : Type} : DataW H → Nat
  | .lit (.string bytes) => bytes.length + 1
  | .lit _ => 1
  | .nil => 1
  | .ptr d => uptoBulk d + 1
  | .slice elems spare => uptoBulkAll elems + uptoBulkAll spare + 1
  | .agg parts => uptoBulkAll parts + 1
  | .iface _ d => uptoBulk d + 1
  | .map entries => uptoBulkEntries entries + 1
  | .held _ => 1
def uptoBulkAll {H : Type} : List (DataW H) → Nat
  | [] => 0
  | d :: r => uptoBulk d + uptoBulkAll r
def uptoBulkEntries {H : Type} : List (Lit × DataW H) → Nat
  | [] => 0
  | x :: r => uptoBulkEntry x + uptoBulkEntries r
def uptoBulkEntry {H : Type} : Lit × DataW H → Nat
  | (.string bytes, d) => bytes.length + uptoBulk d + 1
  | (_, d) => uptoBulk d + 1
 end
def uptoSmall : (H : Type) → List (DataW H) → Bool := fun _ ds => decide (uptoBulkAll ds ≤ 1048576)
def OpenSpec.upto (s : _root_.Go.ChangeSpec) : _root_.Go.OpenSpec := { _root_.Go.OpenSpec.ofChange s with cond := some uptoSmall }

/-- 'clockworklaw35.RebalanceKeeps', WHERE WHAT IT READS IS OF BULK AT MOST 1048576: true; the input reads as it did. -/
def rebalanceKeepsUptoRow : OpenClaim := { program := "ytglnnhmmipopiaagreat", sum := "0e79c3e17af79f316df3254b2099449f5ed4161f7d33c0cc0160f635f7616556", func := "clockwork/clockworklaw35.RebalanceKeeps", spec := "rebalanceKeeps", inPlace := ["internal/bytealg.abigen_runtime_cmpstring", "slices.overlaps[clockwork/api.Part]"], unfollowed := true, recurses := true, apart := false, narrowed := true }
def RebalanceKeepsUptoSaid : Prop := rebalanceKeepsUptoRow.holds Tryz.pinned (OpenSpec.upto rebalanceKeepsSpec)

/-- 'clockworklaw35.RebalanceCounts', WHERE WHAT IT READS IS OF BULK AT MOST 1048576: true; the input reads as it did. -/
def rebalanceCountsUptoRow : OpenClaim := { program := "ytglnnhmmipopiaagreat", sum := "0e79c3e17af79f316df3254b2099449f5ed4161f7d33c0cc0160f635f7616556", func := "clockwork/clockworklaw35.RebalanceCounts", spec := "rebalanceCounts", inPlace := ["internal/bytealg.abigen_runtime_cmpstring", "slices.overlaps[clockwork/api.Part]"], unfollowed := true, recurses := true, apart := false, narrowed := true }
def RebalanceCountsUptoSaid : Prop := rebalanceCountsUptoRow.holds Tryz.pinned (OpenSpec.upto rebalanceCountsSpec)

/-- 'clockworklaw35.RebalanceApplies', WHERE WHAT IT READS IS OF BULK AT MOST 1048576: true; the input reads as it did. -/
def rebalanceAppliesUptoRow : OpenClaim := { program := "ytglnnhmmipopiaagreat", sum := "0e79c3e17af79f316df3254b2099449f5ed4161f7d33c0cc0160f635f7616556", func := "clockwork/clockworklaw35.RebalanceApplies", spec := "rebalanceApplies", inPlace := ["internal/bytealg.abigen_runtime_cmpstring", "slices.overlaps[clockwork/api.Part]"], unfollowed := true, recurses := true, apart := false, narrowed := true }
def RebalanceAppliesUptoSaid : Prop := rebalanceAppliesUptoRow.holds Tryz.pinned (OpenSpec.upto rebalanceAppliesSpec)

/-- 'clockworklaw35.RebalanceAdvises', WHERE WHAT IT READS IS OF BULK AT MOST 1048576: true; the input reads as it did. -/
def rebalanceAdvisesUptoRow : OpenClaim := { program := "ytglnnhmmipopiaagreat", sum := "0e79c3e17af79f316df3254b2099449f5ed4161f7d33c0cc0160f635f7616556", func := "clockwork/clockworklaw35.RebalanceAdvises", spec := "rebalanceAdvises", inPlace := ["internal/bytealg.abigen_runtime_cmpstring", "slices.overlaps[clockwork/api.Part]"], unfollowed := true, recurses := true, apart := false, narrowed := true }
def RebalanceAdvisesUptoSaid : Prop := rebalanceAdvisesUptoRow.holds Tryz.pinned (OpenSpec.upto rebalanceAdvisesSpec)

/-- 'clockworklaw35.RebalanceAdvised', WHERE WHAT IT READS IS OF BULK AT MOST 1048576: true; the input reads as it did. -/
def rebalanceAdvisedUptoRow : OpenClaim := { program := "ytglnnhmmipopiaagreat", sum := "0e79c3e17af79f316df3254b2099449f5ed4161f7d33c0cc0160f635f7616556", func := "clockwork/clockworklaw35.RebalanceAdvised", spec := "rebalanceAdvised", inPlace := ["internal/bytealg.abigen_runtime_cmpstring", "slices.overlaps[clockwork/api.Part]"], unfollowed := true, recurses := true, apart := false, narrowed := true }
def RebalanceAdvisedUptoSaid : Prop := rebalanceAdvisedUptoRow.holds Tryz.pinned (OpenSpec.upto rebalanceAdvisedSpec)

end Rows
end Go.Proofs.YtglnnhmmipopiaaGreat
