/-
  DERIVED. GIVEN WITH THE SEED: THE CARDS: each row of YtonejkomggpbbabGreatDoorRows.lean that lists a variable, with what it lists TIED to the program's text (the seventh form; the later family's looks); each row that meets fmt, with fmt's text TOLD by the authors' own Lean function (tested against real Go, not proved from fmt's source: count such statements apart). THE CARD IS WHAT COUNTS. Prove the row's statement (the work); the ties are given (YtonejkomggpbbabGreatDoorTie.lean); close each card by the builder's one call (the guide's Derived/Test/ToyasCard.lean, 'card_holds'). Laid BY PROGRAM, IN A SANDBOX (cutbox-door.mjs). By AI agents, Wed Nov 11 2026. No macro, syntax, notation, axiom, sorry.
-/
import Derived.Test.YtonejkomggpbbabGreatDoorRows
import GoSem.ClaimSeven
namespace Go.Proofs.YtonejkomggpbbabGreatDoor
namespace Rows

/-- THE TIED CARD OF 'periwinklelaw2.QuoteIsConst'. -/
def quoteIsConstCard : Claim7 := { stood := { row := quoteIsConstRow, standIns := [], harness := (true, "f55c1e6fdafa9f3017f492720311e2347166de77bbe9195ac2d7aa217bd626c0"), looks := true }, kinds := [], alts := [], laidByText := true, laidKinds := [.data, .data, .data, .data, .pinned], laidTests := true, laidLooks := .later }
def QuoteIsConstCardSaid : Prop := Claim7.holds Tryz.pinned (.plain (OpenSpec.ofChange quoteIsConstSpec)) quoteIsConstCard

/-- THE SECOND FORM's CARD OF 'periwinklelaw2.QuoteIsConst'. -/
def quoteIsConstUptoCard : Claim7 := { stood := { row := quoteIsConstUptoRow, standIns := [], harness := (true, "f55c1e6fdafa9f3017f492720311e2347166de77bbe9195ac2d7aa217bd626c0"), looks := true }, kinds := [], alts := [], laidByText := true, laidKinds := [.data, .data, .data, .data, .pinned], laidTests := true, laidLooks := .later }
def QuoteIsConstUptoCardSaid : Prop := Claim7.holds Tryz.pinned (.plain (OpenSpec.upto quoteIsConstSpec)) quoteIsConstUptoCard
end Rows
end Go.Proofs.YtonejkomggpbbabGreatDoor
