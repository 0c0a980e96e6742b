/-
  No cell of these rows narrows 'for every input' (looked for: loops, veiled, ifaces, maps, wideKeys, modest, calm, conditions, laid).
  DERIVED. THE GIVEN ROWS OF THIS SEAT. 3 by the template 'for every input the law returns true; each argument reads behind the call as it read before'; 0 by the template 'total and deterministic' (their statements: YtedbagekceppiaaGreatTotals.lean).
  GIVEN WITH THE SEED: the statements are not yours to turn. If you find one false, say at which input.
  Laid BY PROGRAM, IN A SANDBOX (cutbox-rows.mjs): the forced cells as the released guide's own fill.sh prints them over the translation a92507de218237c5… (all of the seat's roots in one cut). By AI agents, Wed Nov 11 2026. No macro, syntax, notation, axiom, sorry.
-/
import Derived.Test.YtedbagekceppiaaGreatChecked
import GoSem.Claim
import GoSem.ClaimJoined
import GoSem.ClaimMapViews
import Derived.JoinedTies
import Derived.KernelRfl
namespace Go.Proofs.YtedbagekceppiaaGreat
/- THE CELL 'sum', in the pinned program and in every row, IS THE sha256 OF THE DUMP (.gsa) THAT YtedbagekceppiaaGreatProg.lean LOADS. Nothing in Lean hashes anything: it is a label: what it is worth is what the hold of that sum in a sandbox is worth. -/
noncomputable def Tryz.pinned : Pinned := { name := "ytedbagekceppiaagreat", sum := "a92507de218237c5331d9c33c7fdf695b83941c6f39dbb3164e4b763166f440b", checked := Tryz.checked }
namespace Rows
def none {H : Type} : Left H := { results := [], args := [] }

/-- 'clockworklaw33.MigrateChunks': WHATEVER THE INPUT: true; the input reads as it did. -/
def migrateChunksSpec : ChangeSpec := { name := "migrateChunks", fn := fun _ => fun
  | [d1, d2, d3] => { results := [.lit (.bool true)], args := [d1, d2, d3] }
  | _ => none }
def migrateChunksRow : OpenClaim := { program := "ytedbagekceppiaagreat", sum := "a92507de218237c5331d9c33c7fdf695b83941c6f39dbb3164e4b763166f440b", func := "clockwork/clockworklaw33.MigrateChunks", spec := "migrateChunks", inPlace := ["internal/bytealg.abigen_runtime_cmpstring"], unfollowed := true, recurses := true, apart := false }
def MigrateChunksSaid : Prop := migrateChunksRow.holds Tryz.pinned (OpenSpec.ofChange migrateChunksSpec)

/-- ITS FALSE NEIGHBOUR: 'it returns false'. Refute it at one input. -/
def migrateChunksWrong : ChangeSpec := { name := "migrateChunks", fn := fun _ => fun
  | [d1, d2, d3] => { results := [.lit (.bool false)], args := [d1, d2, d3] }
  | _ => none }
def MigrateChunksWrongFalsely : Prop := migrateChunksRow.holds Tryz.pinned (OpenSpec.ofChange migrateChunksWrong)

/-- 'clockworklaw33.MigrateCancels': WHATEVER THE INPUT: true; the input reads as it did. -/
def migrateCancelsSpec : ChangeSpec := { name := "migrateCancels", fn := fun _ => fun
  | [d1, d2, d3] => { results := [.lit (.bool true)], args := [d1, d2, d3] }
  | _ => none }
def migrateCancelsRow : OpenClaim := { program := "ytedbagekceppiaagreat", sum := "a92507de218237c5331d9c33c7fdf695b83941c6f39dbb3164e4b763166f440b", func := "clockwork/clockworklaw33.MigrateCancels", spec := "migrateCancels", inPlace := ["internal/bytealg.abigen_runtime_cmpstring"], unfollowed := true, recurses := true, apart := false }
def MigrateCancelsSaid : Prop := migrateCancelsRow.holds Tryz.pinned (OpenSpec.ofChange migrateCancelsSpec)

/-- ITS FALSE NEIGHBOUR: 'it returns false'. Refute it at one input. -/
def migrateCancelsWrong : ChangeSpec := { name := "migrateCancels", fn := fun _ => fun
  | [d1, d2, d3] => { results := [.lit (.bool false)], args := [d1, d2, d3] }
  | _ => none }
def MigrateCancelsWrongFalsely : Prop := migrateCancelsRow.holds Tryz.pinned (OpenSpec.ofChange migrateCancelsWrong)

/-- 'clockworklaw33.MigrateKeeps': WHATEVER THE INPUT: true; the input reads as it did. -/
def migrateKeepsSpec : ChangeSpec := { name := "migrateKeeps", fn := fun _ => fun
  | [d1, d2] => { results := [.lit (.bool true)], args := [d1, d2] }
  | _ => none }
def migrateKeepsRow : OpenClaim := { program := "ytedbagekceppiaagreat", sum := "a92507de218237c5331d9c33c7fdf695b83941c6f39dbb3164e4b763166f440b", func := "clockwork/clockworklaw33.MigrateKeeps", spec := "migrateKeeps", inPlace := ["internal/bytealg.abigen_runtime_cmpstring"], unfollowed := true, recurses := true, apart := false }
def MigrateKeepsSaid : Prop := migrateKeepsRow.holds Tryz.pinned (OpenSpec.ofChange migrateKeepsSpec)

/-- ITS FALSE NEIGHBOUR: 'it returns false'. Refute it at one input. -/
def migrateKeepsWrong : ChangeSpec := { name := "migrateKeeps", fn := fun _ => fun
  | [d1, d2] => { results := [.lit (.bool false)], args := [d1, d2] }
  | _ => none }
def MigrateKeepsWrongFalsely : Prop := migrateKeepsRow.holds Tryz.pinned (OpenSpec.ofChange migrateKeepsWrong)

/- THE SECOND FORM. 'bulk': how many values and letters a reading holds, each counted each time it is reached (what is shared counts as often as it is met; a slice's spare places count too). A statement '..UptoSaid' is the law's where the arguments, and the package variables that the reading takes, are together of bulk at most 1048576: NARROWER than '..Said'. Prove '..Said' where nothing that the law and all that it calls make is longer than what came in: it says more and counts as full. Else prove '..UptoSaid'. A law counts once. -/
mutual
def uptoBulk {H : Type} : DataW H → Nat
  | .lit (.string bytes) => bytes.length + 1
  | .lit _ => 1
  | .nil => 1
  | .ptr d => uptoBulk d + 1
  | .slice elems spare => uptoBulkAll elems + uptoBulkAll spare + 1
  | .agg parts => uptoBulkAll parts + 1
  | .iface _ d => uptoBulk d + 1
  | .map entries => uptoBulkEntries entries + 1
  | .held _ => 1
def uptoBulkAll {H : Type} : List (DataW H) → Nat
  | [] => 0
  | d :: r => uptoBulk d + uptoBulkAll r
def uptoBulkEntries {H : Type} : List (Lit × DataW H) → Nat
  | [] => 0
  | x :: r => uptoBulkEntry x + uptoBulkEntries r
def uptoBulkEntry {H : Type} : Lit × DataW H → Nat
  | (.string bytes, d) => bytes.length + uptoBulk d + 1
  | (_, d) => uptoBulk d + 1
 end
def uptoSmall : (H : Type) → List (DataW H) → Bool := fun _ ds => decide (uptoBulkAll ds ≤ 1048576)
def OpenSpec.upto (s : _root_.Go.ChangeSpec) : _root_.Go.OpenSpec := { _root_.Go.OpenSpec.ofChange s with cond := some uptoSmall }

/-- 'clockworklaw33.MigrateChunks', WHERE WHAT IT READS IS OF BULK AT MOST 1048576: true; the input reads as it did. -/
def migrateChunksUptoRow : OpenClaim := { program := "ytedbagekceppiaagreat", sum := "a92507de218237c5331d9c33c7fdf695b83941c6f39dbb3164e4b763166f440b", func := "clockwork/clockworklaw33.MigrateChunks", spec := "migrateChunks", inPlace := ["internal/bytealg.abigen_runtime_cmpstring"], unfollowed := true, recurses := true, apart := false, narrowed := true }
def MigrateChunksUptoSaid : Prop := migrateChunksUptoRow.holds Tryz.pinned (OpenSpec.upto migrateChunksSpec)

/-- 'clockworklaw33.MigrateCancels', WHERE WHAT IT READS IS OF BULK AT MOST 1048576: true; the input reads as it did. -/
def migrateCancelsUptoRow : OpenClaim := { program := "ytedbagekceppiaagreat", sum := "a92507de218237c5331d9c33c7fdf695b83941c6f39dbb3164e4b763166f440b", func := "clockwork/clockworklaw33.MigrateCancels", spec := "migrateCancels", inPlace := ["internal/bytealg.abigen_runtime_cmpstring"], unfollowed := true, recurses := true, apart := false, narrowed := true }
def MigrateCancelsUptoSaid : Prop := migrateCancelsUptoRow.holds Tryz.pinned (OpenSpec.upto migrateCancelsSpec)

/-- 'clockworklaw33.MigrateKeeps', WHERE WHAT IT READS IS OF BULK AT MOST 1048576: true; the input reads as it did. -/
def migrateKeepsUptoRow : OpenClaim := { program := "ytedbagekceppiaagreat", sum := "a92507de218237c5331d9c33c7fdf695b83941c6f39dbb3164e4b763166f440b", func := "clockwork/clockworklaw33.MigrateKeeps", spec := "migrateKeeps", inPlace := ["internal/bytealg.abigen_runtime_cmpstring"], unfollowed := true, recurses := true, apart := false, narrowed := true }
def MigrateKeepsUptoSaid : Prop := migrateKeepsUptoRow.holds Tryz.pinned (OpenSpec.upto migrateKeepsSpec)

end Rows
end Go.Proofs.YtedbagekceppiaaGreat
