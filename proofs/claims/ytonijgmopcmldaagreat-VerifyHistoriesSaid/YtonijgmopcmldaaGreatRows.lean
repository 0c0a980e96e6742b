/-
  No cell of these rows narrows 'for every input' (looked for: loops, veiled, ifaces, maps, wideKeys, modest, calm, conditions, laid).
  DERIVED. THE GIVEN ROWS OF THIS SEAT. 7 by the template 'for every input the law returns true; each argument reads behind the call as it read before'; 0 by the template 'total and deterministic' (their statements: YtonijgmopcmldaaGreatTotals.lean).
  GIVEN WITH THE SEED: the statements are not yours to turn. If you find one false, say at which input.
  Laid BY PROGRAM, IN A SANDBOX (cutbox-rows.mjs): the forced cells as the released guide's own fill.sh prints them over the translation 06a175a70afc8c71… (all of the seat's roots in one cut). By AI agents, Wed Nov 11 2026. No macro, syntax, notation, axiom, sorry.
-/
import Derived.Test.YtonijgmopcmldaaGreatChecked
import GoSem.Claim
import GoSem.ClaimJoined
import GoSem.ClaimMapViews
import Derived.JoinedTies
import Derived.KernelRfl
namespace Go.Proofs.YtonijgmopcmldaaGreat
/- THE CELL 'sum', in the pinned program and in every row, IS THE sha256 OF THE DUMP (.gsa) THAT YtonijgmopcmldaaGreatProg.lean LOADS. Nothing in Lean hashes anything: it is a label: what it is worth is what the hold of that sum in a sandbox is worth. -/
noncomputable def Tryz.pinned : Pinned := { name := "ytonijgmopcmldaagreat", sum := "06a175a70afc8c719f8efeb48731fcffcf2ce0c53bec0e61379fce080411d6d6", checked := Tryz.checked }
namespace Rows
def none {H : Type} : Left H := { results := [], args := [] }

/-- 'clockworklaw54.VerifyHistories': WHATEVER THE INPUT: true; the input reads as it did. -/
def verifyHistoriesSpec : ChangeSpec := { name := "verifyHistories", fn := fun _ => fun
  | [d] => { results := [.lit (.bool true)], args := [d] }
  | _ => none }
def verifyHistoriesRow : OpenClaim := { program := "ytonijgmopcmldaagreat", sum := "06a175a70afc8c719f8efeb48731fcffcf2ce0c53bec0e61379fce080411d6d6", func := "clockwork/clockworklaw54.VerifyHistories", spec := "verifyHistories", inPlace := ["internal/bytealg.abigen_runtime_cmpstring"], unfollowed := true, recurses := true, apart := false }
def VerifyHistoriesSaid : Prop := verifyHistoriesRow.holds Tryz.pinned (OpenSpec.ofChange verifyHistoriesSpec)

/-- ITS FALSE NEIGHBOUR: 'it returns false'. Refute it at one input. -/
def verifyHistoriesWrong : ChangeSpec := { name := "verifyHistories", fn := fun _ => fun
  | [d] => { results := [.lit (.bool false)], args := [d] }
  | _ => none }
def VerifyHistoriesWrongFalsely : Prop := verifyHistoriesRow.holds Tryz.pinned (OpenSpec.ofChange verifyHistoriesWrong)

/-- 'clockworklaw54.VerifyFirsts': WHATEVER THE INPUT: true; the input reads as it did. -/
def verifyFirstsSpec : ChangeSpec := { name := "verifyFirsts", fn := fun _ => fun
  | [d1, d2] => { results := [.lit (.bool true)], args := [d1, d2] }
  | _ => none }
def verifyFirstsRow : OpenClaim := { program := "ytonijgmopcmldaagreat", sum := "06a175a70afc8c719f8efeb48731fcffcf2ce0c53bec0e61379fce080411d6d6", func := "clockwork/clockworklaw54.VerifyFirsts", spec := "verifyFirsts", inPlace := ["internal/bytealg.abigen_runtime_cmpstring"], unfollowed := true, recurses := true, apart := false }
def VerifyFirstsSaid : Prop := verifyFirstsRow.holds Tryz.pinned (OpenSpec.ofChange verifyFirstsSpec)

/-- ITS FALSE NEIGHBOUR: 'it returns false'. Refute it at one input. -/
def verifyFirstsWrong : ChangeSpec := { name := "verifyFirsts", fn := fun _ => fun
  | [d1, d2] => { results := [.lit (.bool false)], args := [d1, d2] }
  | _ => none }
def VerifyFirstsWrongFalsely : Prop := verifyFirstsRow.holds Tryz.pinned (OpenSpec.ofChange verifyFirstsWrong)

/-- 'clockworklaw54.VerifyCompares': WHATEVER THE INPUT: true; the input reads as it did. -/
def verifyComparesSpec : ChangeSpec := { name := "verifyCompares", fn := fun _ => fun
  | [d1, d2] => { results := [.lit (.bool true)], args := [d1, d2] }
  | _ => none }
def verifyComparesRow : OpenClaim := { program := "ytonijgmopcmldaagreat", sum := "06a175a70afc8c719f8efeb48731fcffcf2ce0c53bec0e61379fce080411d6d6", func := "clockwork/clockworklaw54.VerifyCompares", spec := "verifyCompares", inPlace := ["internal/bytealg.abigen_runtime_cmpstring"], unfollowed := true, recurses := true, apart := false }
def VerifyComparesSaid : Prop := verifyComparesRow.holds Tryz.pinned (OpenSpec.ofChange verifyComparesSpec)

/-- ITS FALSE NEIGHBOUR: 'it returns false'. Refute it at one input. -/
def verifyComparesWrong : ChangeSpec := { name := "verifyCompares", fn := fun _ => fun
  | [d1, d2] => { results := [.lit (.bool false)], args := [d1, d2] }
  | _ => none }
def VerifyComparesWrongFalsely : Prop := verifyComparesRow.holds Tryz.pinned (OpenSpec.ofChange verifyComparesWrong)

/-- 'clockworklaw54.VerifyStores': WHATEVER THE INPUT: true; the input reads as it did. -/
def verifyStoresSpec : ChangeSpec := { name := "verifyStores", fn := fun _ => fun
  | [d1, d2] => { results := [.lit (.bool true)], args := [d1, d2] }
  | _ => none }
def verifyStoresRow : OpenClaim := { program := "ytonijgmopcmldaagreat", sum := "06a175a70afc8c719f8efeb48731fcffcf2ce0c53bec0e61379fce080411d6d6", func := "clockwork/clockworklaw54.VerifyStores", spec := "verifyStores", inPlace := ["internal/bytealg.abigen_runtime_cmpstring"], unfollowed := true, recurses := true, apart := false }
def VerifyStoresSaid : Prop := verifyStoresRow.holds Tryz.pinned (OpenSpec.ofChange verifyStoresSpec)

/-- ITS FALSE NEIGHBOUR: 'it returns false'. Refute it at one input. -/
def verifyStoresWrong : ChangeSpec := { name := "verifyStores", fn := fun _ => fun
  | [d1, d2] => { results := [.lit (.bool false)], args := [d1, d2] }
  | _ => none }
def VerifyStoresWrongFalsely : Prop := verifyStoresRow.holds Tryz.pinned (OpenSpec.ofChange verifyStoresWrong)

/-- 'clockworklaw54.VerifyBisects': WHATEVER THE INPUT: true; the input reads as it did. -/
def verifyBisectsSpec : ChangeSpec := { name := "verifyBisects", fn := fun _ => fun
  | [d1, d2] => { results := [.lit (.bool true)], args := [d1, d2] }
  | _ => none }
def verifyBisectsRow : OpenClaim := { program := "ytonijgmopcmldaagreat", sum := "06a175a70afc8c719f8efeb48731fcffcf2ce0c53bec0e61379fce080411d6d6", func := "clockwork/clockworklaw54.VerifyBisects", spec := "verifyBisects", inPlace := ["internal/bytealg.abigen_runtime_cmpstring"], unfollowed := true, recurses := true, apart := false }
def VerifyBisectsSaid : Prop := verifyBisectsRow.holds Tryz.pinned (OpenSpec.ofChange verifyBisectsSpec)

/-- ITS FALSE NEIGHBOUR: 'it returns false'. Refute it at one input. -/
def verifyBisectsWrong : ChangeSpec := { name := "verifyBisects", fn := fun _ => fun
  | [d1, d2] => { results := [.lit (.bool false)], args := [d1, d2] }
  | _ => none }
def VerifyBisectsWrongFalsely : Prop := verifyBisectsRow.holds Tryz.pinned (OpenSpec.ofChange verifyBisectsWrong)

/-- 'clockworklaw54.VerifyFinds': WHATEVER THE INPUT: true; the input reads as it did. -/
def verifyFindsSpec : ChangeSpec := { name := "verifyFinds", fn := fun _ => fun
  | [d1, d2] => { results := [.lit (.bool true)], args := [d1, d2] }
  | _ => none }
def verifyFindsRow : OpenClaim := { program := "ytonijgmopcmldaagreat", sum := "06a175a70afc8c719f8efeb48731fcffcf2ce0c53bec0e61379fce080411d6d6", func := "clockwork/clockworklaw54.VerifyFinds", spec := "verifyFinds", inPlace := ["internal/bytealg.abigen_runtime_cmpstring"], unfollowed := true, recurses := true, apart := false }
def VerifyFindsSaid : Prop := verifyFindsRow.holds Tryz.pinned (OpenSpec.ofChange verifyFindsSpec)

/-- ITS FALSE NEIGHBOUR: 'it returns false'. Refute it at one input. -/
def verifyFindsWrong : ChangeSpec := { name := "verifyFinds", fn := fun _ => fun
  | [d1, d2] => { results := [.lit (.bool false)], args := [d1, d2] }
  | _ => none }
def VerifyFindsWrongFalsely : Prop := verifyFindsRow.holds Tryz.pinned (OpenSpec.ofChange verifyFindsWrong)

/-- 'clockworklaw54.VerifyEarliest': WHATEVER THE INPUT: true; the input reads as it did. -/
def verifyEarliestSpec : ChangeSpec := { name := "verifyEarliest", fn := fun _ => fun
  | [d1, d2] => { results := [.lit (.bool true)], args := [d1, d2] }
  | _ => none }
def verifyEarliestRow : OpenClaim := { program := "ytonijgmopcmldaagreat", sum := "06a175a70afc8c719f8efeb48731fcffcf2ce0c53bec0e61379fce080411d6d6", func := "clockwork/clockworklaw54.VerifyEarliest", spec := "verifyEarliest", inPlace := ["internal/bytealg.abigen_runtime_cmpstring"], unfollowed := true, recurses := true, apart := false }
def VerifyEarliestSaid : Prop := verifyEarliestRow.holds Tryz.pinned (OpenSpec.ofChange verifyEarliestSpec)

/-- ITS FALSE NEIGHBOUR: 'it returns false'. Refute it at one input. -/
def verifyEarliestWrong : ChangeSpec := { name := "verifyEarliest", fn := fun _ => fun
  | [d1, d2] => { results := [.lit (.bool false)], args := [d1, d2] }
  | _ => none }
def VerifyEarliestWrongFalsely : Prop := verifyEarliestRow.holds Tryz.pinned (OpenSpec.ofChange verifyEarliestWrong)

/- THE SECOND FORM. 'bulk': how many values and letters a reading holds, each counted each time it is reached (what is shared counts as often as it is met; a slice's spare places count too). A statement '..UptoSaid' is the law's where the arguments, and the package variables that the reading takes, are together of bulk at most 1048576: NARROWER than '..Said'. Prove '..Said' where nothing that the law and all that it calls make is longer than what came in: it says more and counts as full. Else prove '..UptoSaid'. A law counts once. -/
mutual
def uptoBulk {H : Type} : DataW H → Nat
  | .lit (.string bytes) => bytes.length + 1
  | .lit _ => 1
  | .nil => 1
  | .ptr d => uptoBulk d + 1
  | .slice elems spare => uptoBulkAll elems + uptoBulkAll spare + 1
  | .agg parts => uptoBulkAll parts + 1
  | .iface _ d => uptoBulk d + 1
  | .map entries => uptoBulkEntries entries + 1
  | .held _ => 1
def uptoBulkAll {H : Type} : List (DataW H) → Nat
  | [] => 0
  | d :: r => uptoBulk d + uptoBulkAll r
def uptoBulkEntries {H : Type} : List (Lit × DataW H) → Nat
  | [] => 0
  | x :: r => uptoBulkEntry x + uptoBulkEntries r
def uptoBulkEntry {H : Type} : Lit × DataW H → Nat
  | (.string bytes, d) => bytes.length + uptoBulk d + 1
  | (_, d) => uptoBulk d + 1
 end
def uptoSmall : (H : Type) → List (DataW H) → Bool := fun _ ds => decide (uptoBulkAll ds ≤ 1048576)
def OpenSpec.upto (s : _root_.Go.ChangeSpec) : _root_.Go.OpenSpec := { _root_.Go.OpenSpec.ofChange s with cond := some uptoSmall }

/-- 'clockworklaw54.VerifyHistories', WHERE WHAT IT READS IS OF BULK AT MOST 1048576: true; the input reads as it did. -/
def verifyHistoriesUptoRow : OpenClaim := { program := "ytonijgmopcmldaagreat", sum := "06a175a70afc8c719f8efeb48731fcffcf2ce0c53bec0e61379fce080411d6d6", func := "clockwork/clockworklaw54.VerifyHistories", spec := "verifyHistories", inPlace := ["internal/bytealg.abigen_runtime_cmpstring"], unfollowed := true, recurses := true, apart := false, narrowed := true }
def VerifyHistoriesUptoSaid : Prop := verifyHistoriesUptoRow.holds Tryz.pinned (OpenSpec.upto verifyHistoriesSpec)

/-- 'clockworklaw54.VerifyFirsts', WHERE WHAT IT READS IS OF BULK AT MOST 1048576: true; the input reads as it did. -/
def verifyFirstsUptoRow : OpenClaim := { program := "ytonijgmopcmldaagreat", sum := "06a175a70afc8c719f8efeb48731fcffcf2ce0c53bec0e61379fce080411d6d6", func := "clockwork/clockworklaw54.VerifyFirsts", spec := "verifyFirsts", inPlace := ["internal/bytealg.abigen_runtime_cmpstring"], unfollowed := true, recurses := true, apart := false, narrowed := true }
def VerifyFirstsUptoSaid : Prop := verifyFirstsUptoRow.holds Tryz.pinned (OpenSpec.upto verifyFirstsSpec)

/-- 'clockworklaw54.VerifyCompares', WHERE WHAT IT READS IS OF BULK AT MOST 1048576: true; the input reads as it did. -/
def verifyComparesUptoRow : OpenClaim := { program := "ytonijgmopcmldaagreat", sum := "06a175a70afc8c719f8efeb48731fcffcf2ce0c53bec0e61379fce080411d6d6", func := "clockwork/clockworklaw54.VerifyCompares", spec := "verifyCompares", inPlace := ["internal/bytealg.abigen_runtime_cmpstring"], unfollowed := true, recurses := true, apart := false, narrowed := true }
def VerifyComparesUptoSaid : Prop := verifyComparesUptoRow.holds Tryz.pinned (OpenSpec.upto verifyComparesSpec)

/-- 'clockworklaw54.VerifyStores', WHERE WHAT IT READS IS OF BULK AT MOST 1048576: true; the input reads as it did. -/
def verifyStoresUptoRow : OpenClaim := { program := "ytonijgmopcmldaagreat", sum := "06a175a70afc8c719f8efeb48731fcffcf2ce0c53bec0e61379fce080411d6d6", func := "clockwork/clockworklaw54.VerifyStores", spec := "verifyStores", inPlace := ["internal/bytealg.abigen_runtime_cmpstring"], unfollowed := true, recurses := true, apart := false, narrowed := true }
def VerifyStoresUptoSaid : Prop := verifyStoresUptoRow.holds Tryz.pinned (OpenSpec.upto verifyStoresSpec)

/-- 'clockworklaw54.VerifyBisects', WHERE WHAT IT READS IS OF BULK AT MOST 1048576: true; the input reads as it did. -/
def verifyBisectsUptoRow : OpenClaim := { program := "ytonijgmopcmldaagreat", sum := "06a175a70afc8c719f8efeb48731fcffcf2ce0c53bec0e61379fce080411d6d6", func := "clockwork/clockworklaw54.VerifyBisects", spec := "verifyBisects", inPlace := ["internal/bytealg.abigen_runtime_cmpstring"], unfollowed := true, recurses := true, apart := false, narrowed := true }
def VerifyBisectsUptoSaid : Prop := verifyBisectsUptoRow.holds Tryz.pinned (OpenSpec.upto verifyBisectsSpec)

/-- 'clockworklaw54.VerifyFinds', WHERE WHAT IT READS IS OF BULK AT MOST 1048576: true; the input reads as it did. -/
def verifyFindsUptoRow : OpenClaim := { program := "ytonijgmopcmldaagreat", sum := "06a175a70afc8c719f8efeb48731fcffcf2ce0c53bec0e61379fce080411d6d6", func := "clockwork/clockworklaw54.VerifyFinds", spec := "verifyFinds", inPlace := ["internal/bytealg.abigen_runtime_cmpstring"], unfollowed := true, recurses := true, apart := false, narrowed := true }
def VerifyFindsUptoSaid : Prop := verifyFindsUptoRow.holds Tryz.pinned (OpenSpec.upto verifyFindsSpec)

/-- 'clockworklaw54.VerifyEarliest', WHERE WHAT IT READS IS OF BULK AT MOST 1048576: true; the input reads as it did. -/
def verifyEarliestUptoRow : OpenClaim := { program := "ytonijgmopcmldaagreat", sum := "06a175a70afc8c719f8efeb48731fcffcf2ce0c53bec0e61379fce080411d6d6", func := "clockwork/clockworklaw54.VerifyEarliest", spec := "verifyEarliest", inPlace := ["internal/bytealg.abigen_runtime_cmpstring"], unfollowed := true, recurses := true, apart := false, narrowed := true }
def VerifyEarliestUptoSaid : Prop := verifyEarliestUptoRow.holds Tryz.pinned (OpenSpec.upto verifyEarliestSpec)

end Rows
end Go.Proofs.YtonijgmopcmldaaGreat
