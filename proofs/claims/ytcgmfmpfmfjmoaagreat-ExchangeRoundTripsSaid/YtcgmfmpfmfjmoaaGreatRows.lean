/-
  No cell of these rows narrows 'for every input' (looked for: loops, veiled, ifaces, maps, wideKeys, modest, calm, conditions, laid).
  DERIVED. THE GIVEN ROWS OF THIS SEAT. 6 by the template 'for every input the law returns true; each argument reads behind the call as it read before'; 0 by the template 'total and deterministic' (their statements: YtcgmfmpfmfjmoaaGreatTotals.lean).
  GIVEN WITH THE SEED: the statements are not yours to turn. If you find one false, say at which input.
  Laid BY PROGRAM, IN A SANDBOX (cutbox-rows.mjs): the forced cells as the released guide's own fill.sh prints them over the translation 261c9df2046e0e73… (all of the seat's roots in one cut). By AI agents, Wed Nov 11 2026. No macro, syntax, notation, axiom, sorry.
-/
import Derived.Test.YtcgmfmpfmfjmoaaGreatChecked
import GoSem.Claim
import GoSem.ClaimJoined
import GoSem.ClaimMapViews
import Derived.JoinedTies
import Derived.KernelRfl
namespace Go.Proofs.YtcgmfmpfmfjmoaaGreat
/- THE CELL 'sum', in the pinned program and in every row, IS THE sha256 OF THE DUMP (.gsa) THAT YtcgmfmpfmfjmoaaGreatProg.lean LOADS. Nothing in Lean hashes anything: it is a label: what it is worth is what the hold of that sum in a sandbox is worth. -/
noncomputable def Tryz.pinned : Pinned := { name := "ytcgmfmpfmfjmoaagreat", sum := "261c9df2046e0e7380d155d79e115661c2b87bfeb257cfdd6dcee37f274dbc2b", checked := Tryz.checked }
namespace Rows
def none {H : Type} : Left H := { results := [], args := [] }

/-- 'clockworklaw31.ExchangeComplete': WHATEVER THE INPUT: true; the input reads as it did. -/
def exchangeCompleteSpec : ChangeSpec := { name := "exchangeComplete", fn := fun _ => fun
  | [d1, d2, d3, d4, d5] => { results := [.lit (.bool true)], args := [d1, d2, d3, d4, d5] }
  | _ => none }
def exchangeCompleteRow : OpenClaim := { program := "ytcgmfmpfmfjmoaagreat", sum := "261c9df2046e0e7380d155d79e115661c2b87bfeb257cfdd6dcee37f274dbc2b", func := "clockwork/clockworklaw31.ExchangeComplete", spec := "exchangeComplete", inPlace := ["internal/bytealg.abigen_runtime_cmpstring"], unfollowed := true, recurses := true, apart := false }
def ExchangeCompleteSaid : Prop := exchangeCompleteRow.holds Tryz.pinned (OpenSpec.ofChange exchangeCompleteSpec)

/-- ITS FALSE NEIGHBOUR: 'it returns false'. Refute it at one input. -/
def exchangeCompleteWrong : ChangeSpec := { name := "exchangeComplete", fn := fun _ => fun
  | [d1, d2, d3, d4, d5] => { results := [.lit (.bool false)], args := [d1, d2, d3, d4, d5] }
  | _ => none }
def ExchangeCompleteWrongFalsely : Prop := exchangeCompleteRow.holds Tryz.pinned (OpenSpec.ofChange exchangeCompleteWrong)

/-- 'clockworklaw31.ExchangeSends': WHATEVER THE INPUT: true; the input reads as it did. -/
def exchangeSendsSpec : ChangeSpec := { name := "exchangeSends", fn := fun _ => fun
  | [d1, d2, d3, d4] => { results := [.lit (.bool true)], args := [d1, d2, d3, d4] }
  | _ => none }
def exchangeSendsRow : OpenClaim := { program := "ytcgmfmpfmfjmoaagreat", sum := "261c9df2046e0e7380d155d79e115661c2b87bfeb257cfdd6dcee37f274dbc2b", func := "clockwork/clockworklaw31.ExchangeSends", spec := "exchangeSends", inPlace := ["internal/bytealg.abigen_runtime_cmpstring"], unfollowed := true, recurses := true, apart := false }
def ExchangeSendsSaid : Prop := exchangeSendsRow.holds Tryz.pinned (OpenSpec.ofChange exchangeSendsSpec)

/-- ITS FALSE NEIGHBOUR: 'it returns false'. Refute it at one input. -/
def exchangeSendsWrong : ChangeSpec := { name := "exchangeSends", fn := fun _ => fun
  | [d1, d2, d3, d4] => { results := [.lit (.bool false)], args := [d1, d2, d3, d4] }
  | _ => none }
def ExchangeSendsWrongFalsely : Prop := exchangeSendsRow.holds Tryz.pinned (OpenSpec.ofChange exchangeSendsWrong)

/-- 'clockworklaw31.ExchangeWaits': WHATEVER THE INPUT: true; the input reads as it did. -/
def exchangeWaitsSpec : ChangeSpec := { name := "exchangeWaits", fn := fun _ => fun
  | [d1, d2, d3, d4, d5] => { results := [.lit (.bool true)], args := [d1, d2, d3, d4, d5] }
  | _ => none }
def exchangeWaitsRow : OpenClaim := { program := "ytcgmfmpfmfjmoaagreat", sum := "261c9df2046e0e7380d155d79e115661c2b87bfeb257cfdd6dcee37f274dbc2b", func := "clockwork/clockworklaw31.ExchangeWaits", spec := "exchangeWaits", inPlace := ["internal/bytealg.abigen_runtime_cmpstring"], unfollowed := true, recurses := true, apart := false }
def ExchangeWaitsSaid : Prop := exchangeWaitsRow.holds Tryz.pinned (OpenSpec.ofChange exchangeWaitsSpec)

/-- ITS FALSE NEIGHBOUR: 'it returns false'. Refute it at one input. -/
def exchangeWaitsWrong : ChangeSpec := { name := "exchangeWaits", fn := fun _ => fun
  | [d1, d2, d3, d4, d5] => { results := [.lit (.bool false)], args := [d1, d2, d3, d4, d5] }
  | _ => none }
def ExchangeWaitsWrongFalsely : Prop := exchangeWaitsRow.holds Tryz.pinned (OpenSpec.ofChange exchangeWaitsWrong)

/-- 'clockworklaw31.ExchangeCollects': WHATEVER THE INPUT: true; the input reads as it did. -/
def exchangeCollectsSpec : ChangeSpec := { name := "exchangeCollects", fn := fun _ => fun
  | [d1, d2, d3] => { results := [.lit (.bool true)], args := [d1, d2, d3] }
  | _ => none }
def exchangeCollectsRow : OpenClaim := { program := "ytcgmfmpfmfjmoaagreat", sum := "261c9df2046e0e7380d155d79e115661c2b87bfeb257cfdd6dcee37f274dbc2b", func := "clockwork/clockworklaw31.ExchangeCollects", spec := "exchangeCollects", inPlace := ["internal/bytealg.abigen_runtime_cmpstring"], unfollowed := true, recurses := true, apart := false }
def ExchangeCollectsSaid : Prop := exchangeCollectsRow.holds Tryz.pinned (OpenSpec.ofChange exchangeCollectsSpec)

/-- ITS FALSE NEIGHBOUR: 'it returns false'. Refute it at one input. -/
def exchangeCollectsWrong : ChangeSpec := { name := "exchangeCollects", fn := fun _ => fun
  | [d1, d2, d3] => { results := [.lit (.bool false)], args := [d1, d2, d3] }
  | _ => none }
def ExchangeCollectsWrongFalsely : Prop := exchangeCollectsRow.holds Tryz.pinned (OpenSpec.ofChange exchangeCollectsWrong)

/-- 'clockworklaw31.ExchangeCodes': WHATEVER THE INPUT: true; the input reads as it did. -/
def exchangeCodesSpec : ChangeSpec := { name := "exchangeCodes", fn := fun _ => fun
  | [d1, d2] => { results := [.lit (.bool true)], args := [d1, d2] }
  | _ => none }
def exchangeCodesRow : OpenClaim := { program := "ytcgmfmpfmfjmoaagreat", sum := "261c9df2046e0e7380d155d79e115661c2b87bfeb257cfdd6dcee37f274dbc2b", func := "clockwork/clockworklaw31.ExchangeCodes", spec := "exchangeCodes", inPlace := ["internal/bytealg.abigen_runtime_cmpstring", "internal/abi.NoEscape"], unfollowed := true, recurses := true, apart := false }
def ExchangeCodesSaid : Prop := exchangeCodesRow.holds Tryz.pinned (OpenSpec.ofChange exchangeCodesSpec)

/-- ITS FALSE NEIGHBOUR: 'it returns false'. Refute it at one input. -/
def exchangeCodesWrong : ChangeSpec := { name := "exchangeCodes", fn := fun _ => fun
  | [d1, d2] => { results := [.lit (.bool false)], args := [d1, d2] }
  | _ => none }
def ExchangeCodesWrongFalsely : Prop := exchangeCodesRow.holds Tryz.pinned (OpenSpec.ofChange exchangeCodesWrong)

/-- 'clockworklaw31.ExchangeRoundTrips': WHATEVER THE INPUT: true; the input reads as it did. -/
def exchangeRoundTripsSpec : ChangeSpec := { name := "exchangeRoundTrips", fn := fun _ => fun
  | [d1, d2] => { results := [.lit (.bool true)], args := [d1, d2] }
  | _ => none }
def exchangeRoundTripsRow : OpenClaim := { program := "ytcgmfmpfmfjmoaagreat", sum := "261c9df2046e0e7380d155d79e115661c2b87bfeb257cfdd6dcee37f274dbc2b", func := "clockwork/clockworklaw31.ExchangeRoundTrips", spec := "exchangeRoundTrips", inPlace := ["internal/bytealg.abigen_runtime_cmpstring", "internal/abi.NoEscape"], unfollowed := true, recurses := true, apart := false }
def ExchangeRoundTripsSaid : Prop := exchangeRoundTripsRow.holds Tryz.pinned (OpenSpec.ofChange exchangeRoundTripsSpec)

/-- ITS FALSE NEIGHBOUR: 'it returns false'. Refute it at one input. -/
def exchangeRoundTripsWrong : ChangeSpec := { name := "exchangeRoundTrips", fn := fun _ => fun
  | [d1, d2] => { results := [.lit (.bool false)], args := [d1, d2] }
  | _ => none }
def ExchangeRoundTripsWrongFalsely : Prop := exchangeRoundTripsRow.holds Tryz.pinned (OpenSpec.ofChange exchangeRoundTripsWrong)

/- THE SECOND FORM. 'bulk': how many values and letters a reading holds, each counted each time it is reached (what is shared counts as often as it is met; a slice's spare places count too). A statement '..UptoSaid' is the law's where the arguments, and the package variables that the reading takes, are together of bulk at most 1048576: NARROWER than '..Said'. Prove '..Said' where nothing that the law and all that it calls make is longer than what came in: it says more and counts as full. Else prove '..UptoSaid'. A law counts once. -/
mutual
def uptoBulk {H : Type} : DataW H → Nat
  | .lit (.string bytes) => bytes.length + 1
  | .lit _ => 1
  | .nil => 1
  | .ptr d => uptoBulk d + 1
  | .slice elems spare => uptoBulkAll elems + uptoBulkAll spare + 1
  | .agg parts => uptoBulkAll parts + 1
  | .iface _ d => uptoBulk d + 1
  | .map entries => uptoBulkEntries entries + 1
  | .held _ => 1
def uptoBulkAll {H : Type} : List (DataW H) → Nat
  | [] => 0
  | d :: r => uptoBulk d + uptoBulkAll r
def uptoBulkEntries {H : Type} : List (Lit × DataW H) → Nat
  | [] => 0
  | x :: r => uptoBulkEntry x + uptoBulkEntries r
def uptoBulkEntry {H : Type} : Lit × DataW H → Nat
  | (.string bytes, d) => bytes.length + uptoBulk d + 1
  | (_, d) => uptoBulk d + 1
 end
def uptoSmall : (H : Type) → List (DataW H) → Bool := fun _ ds => decide (uptoBulkAll ds ≤ 1048576)
def OpenSpec.upto (s : _root_.Go.ChangeSpec) : _root_.Go.OpenSpec := { _root_.Go.OpenSpec.ofChange s with cond := some uptoSmall }

/-- 'clockworklaw31.ExchangeComplete', WHERE WHAT IT READS IS OF BULK AT MOST 1048576: true; the input reads as it did. -/
def exchangeCompleteUptoRow : OpenClaim := { program := "ytcgmfmpfmfjmoaagreat", sum := "261c9df2046e0e7380d155d79e115661c2b87bfeb257cfdd6dcee37f274dbc2b", func := "clockwork/clockworklaw31.ExchangeComplete", spec := "exchangeComplete", inPlace := ["internal/bytealg.abigen_runtime_cmpstring"], unfollowed := true, recurses := true, apart := false, narrowed := true }
def ExchangeCompleteUptoSaid : Prop := exchangeCompleteUptoRow.holds Tryz.pinned (OpenSpec.upto exchangeCompleteSpec)

/-- 'clockworklaw31.ExchangeSends', WHERE WHAT IT READS IS OF BULK AT MOST 1048576: true; the input reads as it did. -/
def exchangeSendsUptoRow : OpenClaim := { program := "ytcgmfmpfmfjmoaagreat", sum := "261c9df2046e0e7380d155d79e115661c2b87bfeb257cfdd6dcee37f274dbc2b", func := "clockwork/clockworklaw31.ExchangeSends", spec := "exchangeSends", inPlace := ["internal/bytealg.abigen_runtime_cmpstring"], unfollowed := true, recurses := true, apart := false, narrowed := true }
def ExchangeSendsUptoSaid : Prop := exchangeSendsUptoRow.holds Tryz.pinned (OpenSpec.upto exchangeSendsSpec)

/-- 'clockworklaw31.ExchangeWaits', WHERE WHAT IT READS IS OF BULK AT MOST 1048576: true; the input reads as it did. -/
def exchangeWaitsUptoRow : OpenClaim := { program := "ytcgmfmpfmfjmoaagreat", sum := "261c9df2046e0e7380d155d79e115661c2b87bfeb257cfdd6dcee37f274dbc2b", func := "clockwork/clockworklaw31.ExchangeWaits", spec := "exchangeWaits", inPlace := ["internal/bytealg.abigen_runtime_cmpstring"], unfollowed := true, recurses := true, apart := false, narrowed := true }
def ExchangeWaitsUptoSaid : Prop := exchangeWaitsUptoRow.holds Tryz.pinned (OpenSpec.upto exchangeWaitsSpec)

/-- 'clockworklaw31.ExchangeCollects', WHERE WHAT IT READS IS OF BULK AT MOST 1048576: true; the input reads as it did. -/
def exchangeCollectsUptoRow : OpenClaim := { program := "ytcgmfmpfmfjmoaagreat", sum := "261c9df2046e0e7380d155d79e115661c2b87bfeb257cfdd6dcee37f274dbc2b", func := "clockwork/clockworklaw31.ExchangeCollects", spec := "exchangeCollects", inPlace := ["internal/bytealg.abigen_runtime_cmpstring"], unfollowed := true, recurses := true, apart := false, narrowed := true }
def ExchangeCollectsUptoSaid : Prop := exchangeCollectsUptoRow.holds Tryz.pinned (OpenSpec.upto exchangeCollectsSpec)

/-- 'clockworklaw31.ExchangeCodes', WHERE WHAT IT READS IS OF BULK AT MOST 1048576: true; the input reads as it did. -/
def exchangeCodesUptoRow : OpenClaim := { program := "ytcgmfmpfmfjmoaagreat", sum := "261c9df2046e0e7380d155d79e115661c2b87bfeb257cfdd6dcee37f274dbc2b", func := "clockwork/clockworklaw31.ExchangeCodes", spec := "exchangeCodes", inPlace := ["internal/bytealg.abigen_runtime_cmpstring", "internal/abi.NoEscape"], unfollowed := true, recurses := true, apart := false, narrowed := true }
def ExchangeCodesUptoSaid : Prop := exchangeCodesUptoRow.holds Tryz.pinned (OpenSpec.upto exchangeCodesSpec)

/-- 'clockworklaw31.ExchangeRoundTrips', WHERE WHAT IT READS IS OF BULK AT MOST 1048576: true; the input reads as it did. -/
def exchangeRoundTripsUptoRow : OpenClaim := { program := "ytcgmfmpfmfjmoaagreat", sum := "261c9df2046e0e7380d155d79e115661c2b87bfeb257cfdd6dcee37f274dbc2b", func := "clockwork/clockworklaw31.ExchangeRoundTrips", spec := "exchangeRoundTrips", inPlace := ["internal/bytealg.abigen_runtime_cmpstring", "internal/abi.NoEscape"], unfollowed := true, recurses := true, apart := false, narrowed := true }
def ExchangeRoundTripsUptoSaid : Prop := exchangeRoundTripsUptoRow.holds Tryz.pinned (OpenSpec.upto exchangeRoundTripsSpec)

end Rows
end Go.Proofs.YtcgmfmpfmfjmoaaGreat
