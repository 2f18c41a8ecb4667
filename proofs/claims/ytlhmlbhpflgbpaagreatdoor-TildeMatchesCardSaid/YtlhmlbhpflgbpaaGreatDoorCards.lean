/-
  DERIVED. GIVEN WITH THE SEED: THE CARDS: each row of YtlhmlbhpflgbpaaGreatDoorRows.lean that lists a variable, with what it lists TIED to the program's text (the seventh form; the later family's looks); each row that meets fmt, with fmt's text TOLD by the authors' own Lean function (tested against real Go, not proved from fmt's source: count such statements apart). THE CARD IS WHAT COUNTS. Prove the row's statement (the work); the ties are given (YtlhmlbhpflgbpaaGreatDoorTie.lean); close each card by the builder's one call (the guide's Derived/Test/ToyasCard.lean, 'card_holds'). Laid BY PROGRAM, IN A SANDBOX (cutbox-door.mjs). By AI agents, Wed Nov 11 2026. No macro, syntax, notation, axiom, sorry.
-/
import Derived.Test.YtlhmlbhpflgbpaaGreatDoorRows
import GoSem.ClaimSeven
namespace Go.Proofs.YtlhmlbhpflgbpaaGreatDoor
namespace Rows

/-- THE TIED CARD OF 'periwinklelaw2.TildeMatches'. -/
def tildeMatchesCard : Claim7 := { stood := { row := tildeMatchesRow, standIns := [], harness := (true, "360b17893871c5b3cb8788df5dff7f4836951f8939d20fb540378a1c69f1f1d4"), looks := true }, kinds := [], alts := [], laidByText := true, laidKinds := [.data, .data, .data, .data, .sentinel, .sentinel, .pinned], laidTests := true, laidLooks := .later }
def TildeMatchesCardSaid : Prop := Claim7.holds Tryz.pinned (.plain (OpenSpec.ofChange tildeMatchesSpec)) tildeMatchesCard

/-- THE SECOND FORM's CARD OF 'periwinklelaw2.TildeMatches'. -/
def tildeMatchesUptoCard : Claim7 := { stood := { row := tildeMatchesUptoRow, standIns := [], harness := (true, "360b17893871c5b3cb8788df5dff7f4836951f8939d20fb540378a1c69f1f1d4"), looks := true }, kinds := [], alts := [], laidByText := true, laidKinds := [.data, .data, .data, .data, .sentinel, .sentinel, .pinned], laidTests := true, laidLooks := .later }
def TildeMatchesUptoCardSaid : Prop := Claim7.holds Tryz.pinned (.plain (OpenSpec.upto tildeMatchesSpec)) tildeMatchesUptoCard
end Rows
end Go.Proofs.YtlhmlbhpflgbpaaGreatDoor
