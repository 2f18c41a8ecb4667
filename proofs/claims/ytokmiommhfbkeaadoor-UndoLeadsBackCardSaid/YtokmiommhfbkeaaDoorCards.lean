/-
  DERIVED. GIVEN WITH THE SEED: THE CARDS: each row of YtokmiommhfbkeaaDoorRows.lean that lists a variable, with what it lists TIED to the program's text (the seventh form; the later family's looks); each row that meets fmt, with fmt's text TOLD by the authors' own Lean function (tested against real Go, not proved from fmt's source: count such statements apart). THE CARD IS WHAT COUNTS. Prove the row's statement (the work); the ties are given (YtokmiommhfbkeaaDoorTie.lean); close each card by the builder's one call (the guide's Derived/Test/ToyasCard.lean, 'card_holds'). Laid BY PROGRAM, IN A SANDBOX (cutbox-door.mjs). By AI agents, Wed Nov 11 2026. No macro, syntax, notation, axiom, sorry.
-/
import Derived.Test.YtokmiommhfbkeaaDoorRows
import GoSem.ClaimSeven
namespace Go.Proofs.YtokmiommhfbkeaaDoor
namespace Rows

/-- THE TIED CARD OF 'periwinklelaw2.DrawMatches'. -/
def drawMatchesCard : Claim7 := { stood := { row := drawMatchesRow, standIns := [], harness := (true, "a1f8ee637b494d63a431d257c4da270e06c739111d4dbe82879cec774a5912da"), looks := false }, kinds := [], alts := [], laidByText := true, laidKinds := [.data, .data, .data], laidTests := true, laidLooks := .later }
def DrawMatchesCardSaid : Prop := Claim7.holds Tryd.pinned (.plain (OpenSpec.ofChange drawMatchesSpec)) drawMatchesCard

/-- THE TIED CARD OF 'periwinklelaw2.RemembersLast'. -/
def remembersLastCard : Claim7 := { stood := { row := remembersLastRow, standIns := [], harness := (true, "a1f8ee637b494d63a431d257c4da270e06c739111d4dbe82879cec774a5912da"), looks := false }, kinds := [], alts := [], laidByText := true, laidKinds := [.data, .data, .data], laidTests := true, laidLooks := .later }
def RemembersLastCardSaid : Prop := Claim7.holds Tryd.pinned (.plain (OpenSpec.ofChange remembersLastSpec)) remembersLastCard

/-- THE TIED CARD OF 'periwinklelaw2.ViewMatches'. -/
def viewMatchesCard : Claim7 := { stood := { row := viewMatchesRow, standIns := [], harness := (true, "a1f8ee637b494d63a431d257c4da270e06c739111d4dbe82879cec774a5912da"), looks := false }, kinds := [], alts := [], laidByText := true, laidKinds := [.data, .data, .data, .data, .pinned], laidTests := true, laidLooks := .later }
def ViewMatchesCardSaid : Prop := Claim7.holds Tryd.pinned (.plain (OpenSpec.ofChange viewMatchesSpec)) viewMatchesCard

/-- THE TIED CARD OF 'periwinklelaw2.RowsMatch'. -/
def rowsMatchCard : Claim7 := { stood := { row := rowsMatchRow, standIns := [], harness := (true, "a1f8ee637b494d63a431d257c4da270e06c739111d4dbe82879cec774a5912da"), looks := false }, kinds := [], alts := [], laidByText := true, laidKinds := [.data, .data, .data, .data, .pinned], laidTests := true, laidLooks := .later }
def RowsMatchCardSaid : Prop := Claim7.holds Tryd.pinned (.plain (OpenSpec.ofChange rowsMatchSpec)) rowsMatchCard

/-- THE TIED CARD OF 'periwinklelaw2.UndoLeadsBack'. -/
def undoLeadsBackCard : Claim7 := { stood := { row := undoLeadsBackRow, standIns := [], harness := (true, "a1f8ee637b494d63a431d257c4da270e06c739111d4dbe82879cec774a5912da"), looks := false }, kinds := [], alts := [], laidByText := true, laidKinds := [.data, .data, .data], laidTests := true, laidLooks := .later }
def UndoLeadsBackCardSaid : Prop := Claim7.holds Tryd.pinned (.plain (OpenSpec.ofChange undoLeadsBackSpec)) undoLeadsBackCard

/-- THE SECOND FORM's CARD OF 'periwinklelaw2.DrawMatches'. -/
def drawMatchesUptoCard : Claim7 := { stood := { row := drawMatchesUptoRow, standIns := [], harness := (true, "a1f8ee637b494d63a431d257c4da270e06c739111d4dbe82879cec774a5912da"), looks := false }, kinds := [], alts := [], laidByText := true, laidKinds := [.data, .data, .data], laidTests := true, laidLooks := .later }
def DrawMatchesUptoCardSaid : Prop := Claim7.holds Tryd.pinned (.plain (OpenSpec.upto drawMatchesSpec)) drawMatchesUptoCard

/-- THE SECOND FORM's CARD OF 'periwinklelaw2.RemembersLast'. -/
def remembersLastUptoCard : Claim7 := { stood := { row := remembersLastUptoRow, standIns := [], harness := (true, "a1f8ee637b494d63a431d257c4da270e06c739111d4dbe82879cec774a5912da"), looks := false }, kinds := [], alts := [], laidByText := true, laidKinds := [.data, .data, .data], laidTests := true, laidLooks := .later }
def RemembersLastUptoCardSaid : Prop := Claim7.holds Tryd.pinned (.plain (OpenSpec.upto remembersLastSpec)) remembersLastUptoCard

/-- THE SECOND FORM's CARD OF 'periwinklelaw2.ViewMatches'. -/
def viewMatchesUptoCard : Claim7 := { stood := { row := viewMatchesUptoRow, standIns := [], harness := (true, "a1f8ee637b494d63a431d257c4da270e06c739111d4dbe82879cec774a5912da"), looks := false }, kinds := [], alts := [], laidByText := true, laidKinds := [.data, .data, .data, .data, .pinned], laidTests := true, laidLooks := .later }
def ViewMatchesUptoCardSaid : Prop := Claim7.holds Tryd.pinned (.plain (OpenSpec.upto viewMatchesSpec)) viewMatchesUptoCard

/-- THE SECOND FORM's CARD OF 'periwinklelaw2.RowsMatch'. -/
def rowsMatchUptoCard : Claim7 := { stood := { row := rowsMatchUptoRow, standIns := [], harness := (true, "a1f8ee637b494d63a431d257c4da270e06c739111d4dbe82879cec774a5912da"), looks := false }, kinds := [], alts := [], laidByText := true, laidKinds := [.data, .data, .data, .data, .pinned], laidTests := true, laidLooks := .later }
def RowsMatchUptoCardSaid : Prop := Claim7.holds Tryd.pinned (.plain (OpenSpec.upto rowsMatchSpec)) rowsMatchUptoCard

/-- THE SECOND FORM's CARD OF 'periwinklelaw2.UndoLeadsBack'. -/
def undoLeadsBackUptoCard : Claim7 := { stood := { row := undoLeadsBackUptoRow, standIns := [], harness := (true, "a1f8ee637b494d63a431d257c4da270e06c739111d4dbe82879cec774a5912da"), looks := false }, kinds := [], alts := [], laidByText := true, laidKinds := [.data, .data, .data], laidTests := true, laidLooks := .later }
def UndoLeadsBackUptoCardSaid : Prop := Claim7.holds Tryd.pinned (.plain (OpenSpec.upto undoLeadsBackSpec)) undoLeadsBackUptoCard
end Rows
end Go.Proofs.YtokmiommhfbkeaaDoor
