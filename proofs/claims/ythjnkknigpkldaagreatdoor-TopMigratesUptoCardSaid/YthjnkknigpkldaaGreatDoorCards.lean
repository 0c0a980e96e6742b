/-
  DERIVED. GIVEN WITH THE SEED: THE CARDS: each row of YthjnkknigpkldaaGreatDoorRows.lean that lists a variable, with what it lists TIED to the program's text (the seventh form; the later family's looks); each row that meets fmt, with fmt's text TOLD by the authors' own Lean function (tested against real Go, not proved from fmt's source: count such statements apart). THE CARD IS WHAT COUNTS. Prove the row's statement (the work); the ties are given (YthjnkknigpkldaaGreatDoorTie.lean); close each card by the builder's one call (the guide's Derived/Test/ToyasCard.lean, 'card_holds'). Laid BY PROGRAM, IN A SANDBOX (cutbox-door.mjs). By AI agents, Wed Nov 11 2026. No macro, syntax, notation, axiom, sorry.
-/
import Derived.Test.YthjnkknigpkldaaGreatDoorRows
import GoSem.ClaimSeven
namespace Go.Proofs.YthjnkknigpkldaaGreatDoor
namespace Rows

/-- THE TIED CARD OF 'clockworktop.TopMigrates'. -/
def topMigratesCard : Claim7 := { stood := { row := topMigratesRow, standIns := [], harness := (true, "5482552f324a8dbff1a3bfc29191c6c664a46f209609f5d09723c4af697539ff"), looks := true }, kinds := [], alts := [], laidByText := true, laidKinds := [.data, .data, .data], laidTests := true, laidLooks := .later }
def TopMigratesCardSaid : Prop := Claim7.holds Tryz.pinned (.plain (OpenSpec.ofChange topMigratesSpec)) topMigratesCard

/-- THE SECOND FORM's CARD OF 'clockworktop.TopMigrates'. -/
def topMigratesUptoCard : Claim7 := { stood := { row := topMigratesUptoRow, standIns := [], harness := (true, "5482552f324a8dbff1a3bfc29191c6c664a46f209609f5d09723c4af697539ff"), looks := true }, kinds := [], alts := [], laidByText := true, laidKinds := [.data, .data, .data], laidTests := true, laidLooks := .later }
def TopMigratesUptoCardSaid : Prop := Claim7.holds Tryz.pinned (.plain (OpenSpec.upto topMigratesSpec)) topMigratesUptoCard
end Rows
end Go.Proofs.YthjnkknigpkldaaGreatDoor
