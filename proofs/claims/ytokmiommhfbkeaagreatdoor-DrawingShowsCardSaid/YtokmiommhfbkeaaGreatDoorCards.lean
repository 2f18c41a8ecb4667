/-
  DERIVED. GIVEN WITH THE SEED: THE CARDS: each row of YtokmiommhfbkeaaGreatDoorRows.lean that lists a variable, with what it lists TIED to the program's text (the seventh form; the later family's looks); each row that meets fmt, with fmt's text TOLD by the authors' own Lean function (tested against real Go, not proved from fmt's source: count such statements apart). THE CARD IS WHAT COUNTS. Prove the row's statement (the work); the ties are given (YtokmiommhfbkeaaGreatDoorTie.lean); close each card by the builder's one call (the guide's Derived/Test/ToyasCard.lean, 'card_holds'). Laid BY PROGRAM, IN A SANDBOX (cutbox-door.mjs). By AI agents, Wed Nov 11 2026. No macro, syntax, notation, axiom, sorry.
-/
import Derived.Test.YtokmiommhfbkeaaGreatDoorRows
import GoSem.ClaimSeven
namespace Go.Proofs.YtokmiommhfbkeaaGreatDoor
namespace Rows

/-- THE TIED CARD OF 'periwinklelaw2.PagerMatches'. -/
def pagerMatchesCard : Claim7 := { stood := { row := pagerMatchesRow, standIns := [], harness := (true, "09f0456d75e437c79c39eb47b622cfa3bba52673a4ff3d9d07053f6b62382067"), looks := true }, kinds := [], alts := [], laidByText := true, laidKinds := [.data, .data, .data, .data, .pinned], laidTests := true, laidLooks := .later }
def PagerMatchesCardSaid : Prop := Claim7.holds Tryz.pinned (.plain (OpenSpec.ofChange pagerMatchesSpec)) pagerMatchesCard

/-- THE TIED CARD OF 'periwinklelaw2.KeysMatch'. -/
def keysMatchCard : Claim7 := { stood := { row := keysMatchRow, standIns := [], harness := (true, "09f0456d75e437c79c39eb47b622cfa3bba52673a4ff3d9d07053f6b62382067"), looks := true }, kinds := [], alts := [], laidByText := true, laidKinds := [.data, .data, .data], laidTests := true, laidLooks := .later }
def KeysMatchCardSaid : Prop := Claim7.holds Tryz.pinned (.plain (OpenSpec.ofChange keysMatchSpec)) keysMatchCard

/-- THE TIED CARD OF 'periwinklelaw2.LinePresses'. -/
def linePressesCard : Claim7 := { stood := { row := linePressesRow, standIns := [], harness := (true, "09f0456d75e437c79c39eb47b622cfa3bba52673a4ff3d9d07053f6b62382067"), looks := true }, kinds := [], alts := [], laidByText := true, laidKinds := [.data, .data, .data], laidTests := true, laidLooks := .later }
def LinePressesCardSaid : Prop := Claim7.holds Tryz.pinned (.plain (OpenSpec.ofChange linePressesSpec)) linePressesCard

/-- THE TIED CARD OF 'periwinklelaw2.DrawingShows'. -/
def drawingShowsCard : Claim7 := { stood := { row := drawingShowsRow, standIns := [], harness := (true, "09f0456d75e437c79c39eb47b622cfa3bba52673a4ff3d9d07053f6b62382067"), looks := true }, kinds := [], alts := [], laidByText := true, laidKinds := [.data, .data, .data, .data, .sentinel, .sentinel, .pinned], laidTests := true, laidLooks := .later }
def DrawingShowsCardSaid : Prop := Claim7.holds Tryz.pinned (.plain (OpenSpec.ofChange drawingShowsSpec)) drawingShowsCard

/-- THE SECOND FORM's CARD OF 'periwinklelaw2.PagerMatches'. -/
def pagerMatchesUptoCard : Claim7 := { stood := { row := pagerMatchesUptoRow, standIns := [], harness := (true, "09f0456d75e437c79c39eb47b622cfa3bba52673a4ff3d9d07053f6b62382067"), looks := true }, kinds := [], alts := [], laidByText := true, laidKinds := [.data, .data, .data, .data, .pinned], laidTests := true, laidLooks := .later }
def PagerMatchesUptoCardSaid : Prop := Claim7.holds Tryz.pinned (.plain (OpenSpec.upto pagerMatchesSpec)) pagerMatchesUptoCard

/-- THE SECOND FORM's CARD OF 'periwinklelaw2.KeysMatch'. -/
def keysMatchUptoCard : Claim7 := { stood := { row := keysMatchUptoRow, standIns := [], harness := (true, "09f0456d75e437c79c39eb47b622cfa3bba52673a4ff3d9d07053f6b62382067"), looks := true }, kinds := [], alts := [], laidByText := true, laidKinds := [.data, .data, .data], laidTests := true, laidLooks := .later }
def KeysMatchUptoCardSaid : Prop := Claim7.holds Tryz.pinned (.plain (OpenSpec.upto keysMatchSpec)) keysMatchUptoCard

/-- THE SECOND FORM's CARD OF 'periwinklelaw2.LinePresses'. -/
def linePressesUptoCard : Claim7 := { stood := { row := linePressesUptoRow, standIns := [], harness := (true, "09f0456d75e437c79c39eb47b622cfa3bba52673a4ff3d9d07053f6b62382067"), looks := true }, kinds := [], alts := [], laidByText := true, laidKinds := [.data, .data, .data], laidTests := true, laidLooks := .later }
def LinePressesUptoCardSaid : Prop := Claim7.holds Tryz.pinned (.plain (OpenSpec.upto linePressesSpec)) linePressesUptoCard

/-- THE SECOND FORM's CARD OF 'periwinklelaw2.DrawingShows'. -/
def drawingShowsUptoCard : Claim7 := { stood := { row := drawingShowsUptoRow, standIns := [], harness := (true, "09f0456d75e437c79c39eb47b622cfa3bba52673a4ff3d9d07053f6b62382067"), looks := true }, kinds := [], alts := [], laidByText := true, laidKinds := [.data, .data, .data, .data, .sentinel, .sentinel, .pinned], laidTests := true, laidLooks := .later }
def DrawingShowsUptoCardSaid : Prop := Claim7.holds Tryz.pinned (.plain (OpenSpec.upto drawingShowsSpec)) drawingShowsUptoCard
end Rows
end Go.Proofs.YtokmiommhfbkeaaGreatDoor
