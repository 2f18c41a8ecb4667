/-
  DERIVED. GIVEN WITH THE SEED: THE CARDS: each row of YthodlgjfmddemaaGreatDoorRows.lean that lists a variable, with what it lists TIED to the program's text (the seventh form; the later family's looks); each row that meets fmt, with fmt's text TOLD by the authors' own Lean function (tested against real Go, not proved from fmt's source: count such statements apart). THE CARD IS WHAT COUNTS. Prove the row's statement (the work); the ties are given (YthodlgjfmddemaaGreatDoorTie.lean); close each card by the builder's one call (the guide's Derived/Test/ToyasCard.lean, 'card_holds'). Laid BY PROGRAM, IN A SANDBOX (cutbox-door.mjs). By AI agents, Wed Nov 11 2026. No macro, syntax, notation, axiom, sorry.
-/
import Derived.Test.YthodlgjfmddemaaGreatDoorRows
import GoSem.ClaimSeven
namespace Go.Proofs.YthodlgjfmddemaaGreatDoor
namespace Rows

/-- THE TIED CARD OF 'periwinkletop.TopReckoned'. -/
def topReckonedCard : Claim7 := { stood := { row := topReckonedRow, standIns := [], harness := (true, "578f1661493d4aca5b96153c77c43fb63708c974e5dcd880a744d4cca2d4be30"), looks := true }, kinds := [], alts := [], laidByText := true, laidKinds := [.data, .data, .data, .data, .sentinel, .sentinel, .pinned], laidTests := true, laidLooks := .later }
def TopReckonedCardSaid : Prop := Claim7.holds Tryz.pinned (.plain (OpenSpec.ofChange topReckonedSpec)) topReckonedCard

/-- THE SECOND FORM's CARD OF 'periwinkletop.TopReckoned'. -/
def topReckonedUptoCard : Claim7 := { stood := { row := topReckonedUptoRow, standIns := [], harness := (true, "578f1661493d4aca5b96153c77c43fb63708c974e5dcd880a744d4cca2d4be30"), looks := true }, kinds := [], alts := [], laidByText := true, laidKinds := [.data, .data, .data, .data, .sentinel, .sentinel, .pinned], laidTests := true, laidLooks := .later }
def TopReckonedUptoCardSaid : Prop := Claim7.holds Tryz.pinned (.plain (OpenSpec.upto topReckonedSpec)) topReckonedUptoCard
end Rows
end Go.Proofs.YthodlgjfmddemaaGreatDoor
