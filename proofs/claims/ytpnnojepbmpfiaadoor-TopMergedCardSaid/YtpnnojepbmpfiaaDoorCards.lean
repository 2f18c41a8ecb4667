/-
  DERIVED. GIVEN WITH THE SEED: THE CARDS: each row of YtpnnojepbmpfiaaDoorRows.lean that lists a variable, with what it lists TIED to the program's text (the seventh form; the later family's looks); each row that meets fmt, with fmt's text TOLD by the authors' own Lean function (tested against real Go, not proved from fmt's source: count such statements apart). THE CARD IS WHAT COUNTS. Prove the row's statement (the work); the ties are given (YtpnnojepbmpfiaaDoorTie.lean); close each card by the builder's one call (the guide's Derived/Test/ToyasCard.lean, 'card_holds'). Laid BY PROGRAM, IN A SANDBOX (cutbox-door.mjs). By AI agents, Wed Nov 11 2026. No macro, syntax, notation, axiom, sorry.
-/
import Derived.Test.YtpnnojepbmpfiaaDoorRows
import GoSem.ClaimSeven
namespace Go.Proofs.YtpnnojepbmpfiaaDoor
namespace Rows

/-- THE TIED CARD OF 'periwinkletop.TopMerged'. -/
def topMergedCard : Claim7 := { stood := { row := topMergedRow, standIns := [], harness := (true, "84fad1357a5297fe9d55109799b890369dc288f65f4a1322e60d7c6caef2ecae"), looks := false }, kinds := [], alts := [], laidByText := true, laidKinds := [.data, .data, .data], laidTests := true, laidLooks := .later }
def TopMergedCardSaid : Prop := Claim7.holds Tryd.pinned (.plain (OpenSpec.ofChange topMergedSpec)) topMergedCard

/-- THE SECOND FORM's CARD OF 'periwinkletop.TopMerged'. -/
def topMergedUptoCard : Claim7 := { stood := { row := topMergedUptoRow, standIns := [], harness := (true, "84fad1357a5297fe9d55109799b890369dc288f65f4a1322e60d7c6caef2ecae"), looks := false }, kinds := [], alts := [], laidByText := true, laidKinds := [.data, .data, .data], laidTests := true, laidLooks := .later }
def TopMergedUptoCardSaid : Prop := Claim7.holds Tryd.pinned (.plain (OpenSpec.upto topMergedSpec)) topMergedUptoCard
end Rows
end Go.Proofs.YtpnnojepbmpfiaaDoor
