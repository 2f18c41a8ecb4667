/-
  DERIVED. GIVEN WITH THE SEED: THE CARDS: each row of YtlhaidibcocooaaGreatDoorRows.lean that lists a variable, with what it lists TIED to the program's text (the seventh form; the later family's looks); each row that meets fmt, with fmt's text TOLD by the authors' own Lean function (tested against real Go, not proved from fmt's source: count such statements apart). THE CARD IS WHAT COUNTS. Prove the row's statement (the work); the ties are given (YtlhaidibcocooaaGreatDoorTie.lean); close each card by the builder's one call (the guide's Derived/Test/ToyasCard.lean, 'card_holds'). Laid BY PROGRAM, IN A SANDBOX (cutbox-door.mjs). By AI agents, Wed Nov 11 2026. No macro, syntax, notation, axiom, sorry.
-/
import Derived.Test.YtlhaidibcocooaaGreatDoorRows
import GoSem.ClaimSeven
namespace Go.Proofs.YtlhaidibcocooaaGreatDoor
namespace Rows

/-- THE TIED CARD OF 'periwinklelaw2.TimesCheck'. -/
def timesCheckCard : Claim7 := { stood := { row := timesCheckRow, standIns := [], harness := (true, "d15b976bd45ca49d5c074830448cead6f3373dea9e36d304846c8c185da8be2a"), looks := true }, kinds := [], alts := [], laidByText := true, laidKinds := [.data, .data, .data, .data, .sentinel, .sentinel, .pinned, .pinned], laidTests := true, laidLooks := .later }
def TimesCheckCardSaid : Prop := Claim7.holds Tryz.pinned (.plain (OpenSpec.ofChange timesCheckSpec)) timesCheckCard

/-- THE TIED CARD OF 'periwinklelaw2.NextIsLeast'. -/
def nextIsLeastCard : Claim7 := { stood := { row := nextIsLeastRow, standIns := [], harness := (true, "d15b976bd45ca49d5c074830448cead6f3373dea9e36d304846c8c185da8be2a"), looks := true }, kinds := [], alts := [], laidByText := true, laidKinds := [.data, .data, .data, .data, .sentinel, .sentinel, .pinned, .pinned], laidTests := true, laidLooks := .later }
def NextIsLeastCardSaid : Prop := Claim7.holds Tryz.pinned (.plain (OpenSpec.ofChange nextIsLeastSpec)) nextIsLeastCard

/-- THE TIED CARD OF 'periwinklelaw2.TimesPrintBack'. -/
def timesPrintBackCard : Claim7 := { stood := { row := timesPrintBackRow, standIns := [], harness := (true, "d15b976bd45ca49d5c074830448cead6f3373dea9e36d304846c8c185da8be2a"), looks := true }, kinds := [], alts := [], laidByText := true, laidKinds := [.data, .data, .data, .data, .sentinel, .sentinel, .listed, .data, .pinned, .pinned], laidTests := true, laidLooks := .later }
def TimesPrintBackCardSaid : Prop := Claim7.holds Tryz.pinned (.plain (OpenSpec.ofChange timesPrintBackSpec)) timesPrintBackCard

/-- THE TIED CARD OF 'periwinklelaw2.FiresAreNexts'. -/
def firesAreNextsCard : Claim7 := { stood := { row := firesAreNextsRow, standIns := [], harness := (true, "d15b976bd45ca49d5c074830448cead6f3373dea9e36d304846c8c185da8be2a"), looks := true }, kinds := [], alts := [], laidByText := true, laidKinds := [.data, .data, .data, .data, .sentinel, .sentinel, .pinned, .pinned], laidTests := true, laidLooks := .later }
def FiresAreNextsCardSaid : Prop := Claim7.holds Tryz.pinned (.plain (OpenSpec.ofChange firesAreNextsSpec)) firesAreNextsCard

/-- THE SECOND FORM's CARD OF 'periwinklelaw2.TimesCheck'. -/
def timesCheckUptoCard : Claim7 := { stood := { row := timesCheckUptoRow, standIns := [], harness := (true, "d15b976bd45ca49d5c074830448cead6f3373dea9e36d304846c8c185da8be2a"), looks := true }, kinds := [], alts := [], laidByText := true, laidKinds := [.data, .data, .data, .data, .sentinel, .sentinel, .pinned, .pinned], laidTests := true, laidLooks := .later }
def TimesCheckUptoCardSaid : Prop := Claim7.holds Tryz.pinned (.plain (OpenSpec.upto timesCheckSpec)) timesCheckUptoCard

/-- THE SECOND FORM's CARD OF 'periwinklelaw2.NextIsLeast'. -/
def nextIsLeastUptoCard : Claim7 := { stood := { row := nextIsLeastUptoRow, standIns := [], harness := (true, "d15b976bd45ca49d5c074830448cead6f3373dea9e36d304846c8c185da8be2a"), looks := true }, kinds := [], alts := [], laidByText := true, laidKinds := [.data, .data, .data, .data, .sentinel, .sentinel, .pinned, .pinned], laidTests := true, laidLooks := .later }
def NextIsLeastUptoCardSaid : Prop := Claim7.holds Tryz.pinned (.plain (OpenSpec.upto nextIsLeastSpec)) nextIsLeastUptoCard

/-- THE SECOND FORM's CARD OF 'periwinklelaw2.TimesPrintBack'. -/
def timesPrintBackUptoCard : Claim7 := { stood := { row := timesPrintBackUptoRow, standIns := [], harness := (true, "d15b976bd45ca49d5c074830448cead6f3373dea9e36d304846c8c185da8be2a"), looks := true }, kinds := [], alts := [], laidByText := true, laidKinds := [.data, .data, .data, .data, .sentinel, .sentinel, .listed, .data, .pinned, .pinned], laidTests := true, laidLooks := .later }
def TimesPrintBackUptoCardSaid : Prop := Claim7.holds Tryz.pinned (.plain (OpenSpec.upto timesPrintBackSpec)) timesPrintBackUptoCard

/-- THE SECOND FORM's CARD OF 'periwinklelaw2.FiresAreNexts'. -/
def firesAreNextsUptoCard : Claim7 := { stood := { row := firesAreNextsUptoRow, standIns := [], harness := (true, "d15b976bd45ca49d5c074830448cead6f3373dea9e36d304846c8c185da8be2a"), looks := true }, kinds := [], alts := [], laidByText := true, laidKinds := [.data, .data, .data, .data, .sentinel, .sentinel, .pinned, .pinned], laidTests := true, laidLooks := .later }
def FiresAreNextsUptoCardSaid : Prop := Claim7.holds Tryz.pinned (.plain (OpenSpec.upto firesAreNextsSpec)) firesAreNextsUptoCard
end Rows
end Go.Proofs.YtlhaidibcocooaaGreatDoor
