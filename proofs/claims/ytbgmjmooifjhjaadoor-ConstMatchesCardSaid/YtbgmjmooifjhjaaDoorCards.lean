/-
  DERIVED. GIVEN WITH THE SEED: THE CARDS: each row of YtbgmjmooifjhjaaDoorRows.lean that lists a variable, with what it lists TIED to the program's text (the seventh form; the later family's looks); each row that meets fmt, with fmt's text TOLD by the authors' own Lean function (tested against real Go, not proved from fmt's source: count such statements apart). THE CARD IS WHAT COUNTS. Prove the row's statement (the work); the ties are given (YtbgmjmooifjhjaaDoorTie.lean); close each card by the builder's one call (the guide's Derived/Test/ToyasCard.lean, 'card_holds'). Laid BY PROGRAM, IN A SANDBOX (cutbox-door.mjs). By AI agents, Wed Nov 11 2026. No macro, syntax, notation, axiom, sorry.
-/
import Derived.Test.YtbgmjmooifjhjaaDoorRows
import GoSem.ClaimSeven
namespace Go.Proofs.YtbgmjmooifjhjaaDoor
namespace Rows

/-- THE TIED CARD OF 'periwinklelaw2.ConstMatches'. -/
def constMatchesCard : Claim7 := { stood := { row := constMatchesRow, standIns := [], harness := (true, "e658025c955de9a8bbc1ec54c2ffbd432fe923e640e54fdcf0e1630386d212f8"), looks := false }, kinds := [], alts := [], laidByText := true, laidKinds := [.data, .data, .data], laidTests := true, laidLooks := .later }
def ConstMatchesCardSaid : Prop := Claim7.holds Tryd.pinned (.plain (OpenSpec.ofChange constMatchesSpec)) constMatchesCard

/-- THE TIED CARD OF 'periwinklelaw2.SplitMatches'. -/
def splitMatchesCard : Claim7 := { stood := { row := splitMatchesRow, standIns := [], harness := (true, "e658025c955de9a8bbc1ec54c2ffbd432fe923e640e54fdcf0e1630386d212f8"), looks := false }, kinds := [], alts := [], laidByText := true, laidKinds := [.data, .data, .data], laidTests := true, laidLooks := .later }
def SplitMatchesCardSaid : Prop := Claim7.holds Tryd.pinned (.plain (OpenSpec.ofChange splitMatchesSpec)) splitMatchesCard

/-- THE SECOND FORM's CARD OF 'periwinklelaw2.ConstMatches'. -/
def constMatchesUptoCard : Claim7 := { stood := { row := constMatchesUptoRow, standIns := [], harness := (true, "e658025c955de9a8bbc1ec54c2ffbd432fe923e640e54fdcf0e1630386d212f8"), looks := false }, kinds := [], alts := [], laidByText := true, laidKinds := [.data, .data, .data], laidTests := true, laidLooks := .later }
def ConstMatchesUptoCardSaid : Prop := Claim7.holds Tryd.pinned (.plain (OpenSpec.upto constMatchesSpec)) constMatchesUptoCard

/-- THE SECOND FORM's CARD OF 'periwinklelaw2.SplitMatches'. -/
def splitMatchesUptoCard : Claim7 := { stood := { row := splitMatchesUptoRow, standIns := [], harness := (true, "e658025c955de9a8bbc1ec54c2ffbd432fe923e640e54fdcf0e1630386d212f8"), looks := false }, kinds := [], alts := [], laidByText := true, laidKinds := [.data, .data, .data], laidTests := true, laidLooks := .later }
def SplitMatchesUptoCardSaid : Prop := Claim7.holds Tryd.pinned (.plain (OpenSpec.upto splitMatchesSpec)) splitMatchesUptoCard
end Rows
end Go.Proofs.YtbgmjmooifjhjaaDoor
