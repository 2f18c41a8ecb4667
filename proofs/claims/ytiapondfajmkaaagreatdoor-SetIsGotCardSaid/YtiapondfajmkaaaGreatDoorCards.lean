/-
  DERIVED. GIVEN WITH THE SEED: THE CARDS: each row of YtiapondfajmkaaaGreatDoorRows.lean that lists a variable, with what it lists TIED to the program's text (the seventh form; the later family's looks); each row that meets fmt, with fmt's text TOLD by the authors' own Lean function (tested against real Go, not proved from fmt's source: count such statements apart). THE CARD IS WHAT COUNTS. Prove the row's statement (the work); the ties are given (YtiapondfajmkaaaGreatDoorTie.lean); close each card by the builder's one call (the guide's Derived/Test/ToyasCard.lean, 'card_holds'). Laid BY PROGRAM, IN A SANDBOX (cutbox-door.mjs). By AI agents, Wed Nov 11 2026. No macro, syntax, notation, axiom, sorry.
-/
import Derived.Test.YtiapondfajmkaaaGreatDoorRows
import GoSem.ClaimSeven
namespace Go.Proofs.YtiapondfajmkaaaGreatDoor
namespace Rows

/-- THE TIED CARD OF 'periwinklelaw2.SetIsGot'. -/
def setIsGotCard : Claim7 := { stood := { row := setIsGotRow, standIns := [], harness := (true, "4c8e0d20ef933d4642006a9a9be8dcb64735b110060bda19a5d9e64eab2e8ecf"), looks := true }, kinds := [], alts := [], laidByText := true, laidKinds := [.data, .data, .data, .data, .pinned], laidTests := true, laidLooks := .later }
def SetIsGotCardSaid : Prop := Claim7.holds Tryz.pinned (.plain (OpenSpec.ofChange setIsGotSpec)) setIsGotCard

/-- THE SECOND FORM's CARD OF 'periwinklelaw2.SetIsGot'. -/
def setIsGotUptoCard : Claim7 := { stood := { row := setIsGotUptoRow, standIns := [], harness := (true, "4c8e0d20ef933d4642006a9a9be8dcb64735b110060bda19a5d9e64eab2e8ecf"), looks := true }, kinds := [], alts := [], laidByText := true, laidKinds := [.data, .data, .data, .data, .pinned], laidTests := true, laidLooks := .later }
def SetIsGotUptoCardSaid : Prop := Claim7.holds Tryz.pinned (.plain (OpenSpec.upto setIsGotSpec)) setIsGotUptoCard
end Rows
end Go.Proofs.YtiapondfajmkaaaGreatDoor
