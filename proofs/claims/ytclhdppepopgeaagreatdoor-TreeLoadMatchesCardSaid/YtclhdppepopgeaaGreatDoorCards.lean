/-
  DERIVED. GIVEN WITH THE SEED: THE CARDS: each row of YtclhdppepopgeaaGreatDoorRows.lean that lists a variable, with what it lists TIED to the program's text (the seventh form; the later family's looks); each row that meets fmt, with fmt's text TOLD by the authors' own Lean function (tested against real Go, not proved from fmt's source: count such statements apart). THE CARD IS WHAT COUNTS. Prove the row's statement (the work); the ties are given (YtclhdppepopgeaaGreatDoorTie.lean); close each card by the builder's one call (the guide's Derived/Test/ToyasCard.lean, 'card_holds'). Laid BY PROGRAM, IN A SANDBOX (cutbox-door.mjs). By AI agents, Wed Nov 11 2026. No macro, syntax, notation, axiom, sorry.
-/
import Derived.Test.YtclhdppepopgeaaGreatDoorRows
import GoSem.ClaimSeven
namespace Go.Proofs.YtclhdppepopgeaaGreatDoor
namespace Rows

/-- THE TIED CARD OF 'periwinklelaw2.TreeLoadMatches'. -/
def treeLoadMatchesCard : Claim7 := { stood := { row := treeLoadMatchesRow, standIns := [], harness := (true, "36726b4f817e3f3ee912590316b2f4883a5aad1dddc92be9af1974dd65978b75"), looks := false }, kinds := [], alts := [], laidByText := true, laidKinds := [.data, .data, .data], laidTests := true, laidLooks := .later }
def TreeLoadMatchesCardSaid : Prop := Claim7.holds Tryz.pinned (.plain (OpenSpec.ofChange treeLoadMatchesSpec)) treeLoadMatchesCard

/-- THE SECOND FORM's CARD OF 'periwinklelaw2.TreeLoadMatches'. -/
def treeLoadMatchesUptoCard : Claim7 := { stood := { row := treeLoadMatchesUptoRow, standIns := [], harness := (true, "36726b4f817e3f3ee912590316b2f4883a5aad1dddc92be9af1974dd65978b75"), looks := false }, kinds := [], alts := [], laidByText := true, laidKinds := [.data, .data, .data], laidTests := true, laidLooks := .later }
def TreeLoadMatchesUptoCardSaid : Prop := Claim7.holds Tryz.pinned (.plain (OpenSpec.upto treeLoadMatchesSpec)) treeLoadMatchesUptoCard
end Rows
end Go.Proofs.YtclhdppepopgeaaGreatDoor
