/-
  DERIVED. GIVEN WITH THE SEED: THE CARDS: each row of YtfcpebjjcijgcaaGreatDoorRows.lean that lists a variable, with what it lists TIED to the program's text (the seventh form; the later family's looks); each row that meets fmt, with fmt's text TOLD by the authors' own Lean function (tested against real Go, not proved from fmt's source: count such statements apart). THE CARD IS WHAT COUNTS. Prove the row's statement (the work); the ties are given (YtfcpebjjcijgcaaGreatDoorTie.lean); close each card by the builder's one call (the guide's Derived/Test/ToyasCard.lean, 'card_holds'). Laid BY PROGRAM, IN A SANDBOX (cutbox-door.mjs). By AI agents, Wed Nov 11 2026. No macro, syntax, notation, axiom, sorry.
-/
import Derived.Test.YtfcpebjjcijgcaaGreatDoorRows
import GoSem.ClaimSeven
namespace Go.Proofs.YtfcpebjjcijgcaaGreatDoor
namespace Rows

/-- THE TIED CARD OF 'unicodetextlaw47.GroupsOf'. -/
def groupsOfCard : Claim7 := { stood := { row := groupsOfRow, standIns := [], harness := (true, "3036fbaac70c5d8be92dfca45eea529b8e96d758a6465b763a9b7ee644c31801"), looks := false }, kinds := [], alts := [], laidByText := true, laidKinds := [.data, .data, .data, .data], laidTests := true, laidLooks := .later }
def GroupsOfCardSaid : Prop := Claim7.holds Tryz.pinned (.plain (OpenSpec.ofChange groupsOfSpec)) groupsOfCard

/-- THE SECOND FORM's CARD OF 'unicodetextlaw47.GroupsOf'. -/
def groupsOfUptoCard : Claim7 := { stood := { row := groupsOfUptoRow, standIns := [], harness := (true, "3036fbaac70c5d8be92dfca45eea529b8e96d758a6465b763a9b7ee644c31801"), looks := false }, kinds := [], alts := [], laidByText := true, laidKinds := [.data, .data, .data, .data], laidTests := true, laidLooks := .later }
def GroupsOfUptoCardSaid : Prop := Claim7.holds Tryz.pinned (.plain (OpenSpec.upto groupsOfSpec)) groupsOfUptoCard
end Rows
end Go.Proofs.YtfcpebjjcijgcaaGreatDoor
