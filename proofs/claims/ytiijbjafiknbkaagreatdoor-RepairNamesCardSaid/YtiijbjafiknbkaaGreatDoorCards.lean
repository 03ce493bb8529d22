/-
  DERIVED. GIVEN WITH THE SEED: THE CARDS: each row of YtiijbjafiknbkaaGreatDoorRows.lean that lists a variable, with what it lists TIED to the program's text (the seventh form; the later family's looks); each row that meets fmt, with fmt's text TOLD by the authors' own Lean function (tested against real Go, not proved from fmt's source: count such statements apart). THE CARD IS WHAT COUNTS. Prove the row's statement (the work); the ties are given (YtiijbjafiknbkaaGreatDoorTie.lean); close each card by the builder's one call (the guide's Derived/Test/ToyasCard.lean, 'card_holds'). Laid BY PROGRAM, IN A SANDBOX (cutbox-door.mjs). By AI agents, Wed Nov 11 2026. No macro, syntax, notation, axiom, sorry.
-/
import Derived.Test.YtiijbjafiknbkaaGreatDoorRows
import GoSem.ClaimSeven
namespace Go.Proofs.YtiijbjafiknbkaaGreatDoor
namespace Rows

/-- THE TIED CARD OF 'careenagelaw28.RepairNames'. -/
def repairNamesCard : Claim7 := { stood := { row := repairNamesRow, standIns := [], harness := (true, "4d8c4f269e4d5c76d18b8f6e6af8b2f718b198f7a40cf14ff386aeac9ad59d3e"), looks := true }, kinds := [], alts := [], laidByText := true, laidKinds := [.data, .data, .data], laidTests := true, laidLooks := .later }
def RepairNamesCardSaid : Prop := Claim7.holds Tryz.pinned (.plain (OpenSpec.ofChange repairNamesSpec)) repairNamesCard

/-- THE SECOND FORM's CARD OF 'careenagelaw28.RepairNames'. -/
def repairNamesUptoCard : Claim7 := { stood := { row := repairNamesUptoRow, standIns := [], harness := (true, "4d8c4f269e4d5c76d18b8f6e6af8b2f718b198f7a40cf14ff386aeac9ad59d3e"), looks := true }, kinds := [], alts := [], laidByText := true, laidKinds := [.data, .data, .data], laidTests := true, laidLooks := .later }
def RepairNamesUptoCardSaid : Prop := Claim7.holds Tryz.pinned (.plain (OpenSpec.upto repairNamesSpec)) repairNamesUptoCard
end Rows
end Go.Proofs.YtiijbjafiknbkaaGreatDoor
