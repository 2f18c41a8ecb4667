/-
  DERIVED. GIVEN WITH THE SEED: THE CARDS: each row of YtiigclkebnmopaaGreatDoorRows.lean that lists a variable, with what it lists TIED to the program's text (the seventh form; the later family's looks); each row that meets fmt, with fmt's text TOLD by the authors' own Lean function (tested against real Go, not proved from fmt's source: count such statements apart). THE CARD IS WHAT COUNTS. Prove the row's statement (the work); the ties are given (YtiigclkebnmopaaGreatDoorTie.lean); close each card by the builder's one call (the guide's Derived/Test/ToyasCard.lean, 'card_holds'). Laid BY PROGRAM, IN A SANDBOX (cutbox-door.mjs). By AI agents, Wed Nov 11 2026. No macro, syntax, notation, axiom, sorry.
-/
import Derived.Test.YtiigclkebnmopaaGreatDoorRows
import GoSem.ClaimSeven
namespace Go.Proofs.YtiigclkebnmopaaGreatDoor
namespace Rows

/-- THE TIED CARD OF 'periwinklelaw2.ArithReads'. -/
def arithReadsCard : Claim7 := { stood := { row := arithReadsRow, standIns := [], harness := (true, "e9bd499456193fd7cd2d594e96626f3c3636d6d4737c58bf6e5150983338921e"), looks := true }, kinds := [], alts := [], laidByText := true, laidKinds := [.data, .data, .data, .data, .sentinel, .sentinel, .pinned], laidTests := true, laidLooks := .later }
def ArithReadsCardSaid : Prop := Claim7.holds Tryz.pinned (.plain (OpenSpec.ofChange arithReadsSpec)) arithReadsCard

/-- THE TIED CARD OF 'periwinklelaw2.ArithPrintsBack'. -/
def arithPrintsBackCard : Claim7 := { stood := { row := arithPrintsBackRow, standIns := [], harness := (true, "e9bd499456193fd7cd2d594e96626f3c3636d6d4737c58bf6e5150983338921e"), looks := true }, kinds := [], alts := [], laidByText := true, laidKinds := [.data, .data, .data, .data, .pinned], laidTests := true, laidLooks := .later }
def ArithPrintsBackCardSaid : Prop := Claim7.holds Tryz.pinned (.plain (OpenSpec.ofChange arithPrintsBackSpec)) arithPrintsBackCard

/-- THE TIED CARD OF 'periwinklelaw2.MutatedArithReads'. -/
def mutatedArithReadsCard : Claim7 := { stood := { row := mutatedArithReadsRow, standIns := [], harness := (true, "e9bd499456193fd7cd2d594e96626f3c3636d6d4737c58bf6e5150983338921e"), looks := true }, kinds := [], alts := [], laidByText := true, laidKinds := [.data, .data, .data, .data, .sentinel, .sentinel, .pinned], laidTests := true, laidLooks := .later }
def MutatedArithReadsCardSaid : Prop := Claim7.holds Tryz.pinned (.plain (OpenSpec.ofChange mutatedArithReadsSpec)) mutatedArithReadsCard

/-- THE SECOND FORM's CARD OF 'periwinklelaw2.ArithReads'. -/
def arithReadsUptoCard : Claim7 := { stood := { row := arithReadsUptoRow, standIns := [], harness := (true, "e9bd499456193fd7cd2d594e96626f3c3636d6d4737c58bf6e5150983338921e"), looks := true }, kinds := [], alts := [], laidByText := true, laidKinds := [.data, .data, .data, .data, .sentinel, .sentinel, .pinned], laidTests := true, laidLooks := .later }
def ArithReadsUptoCardSaid : Prop := Claim7.holds Tryz.pinned (.plain (OpenSpec.upto arithReadsSpec)) arithReadsUptoCard

/-- THE SECOND FORM's CARD OF 'periwinklelaw2.ArithPrintsBack'. -/
def arithPrintsBackUptoCard : Claim7 := { stood := { row := arithPrintsBackUptoRow, standIns := [], harness := (true, "e9bd499456193fd7cd2d594e96626f3c3636d6d4737c58bf6e5150983338921e"), looks := true }, kinds := [], alts := [], laidByText := true, laidKinds := [.data, .data, .data, .data, .pinned], laidTests := true, laidLooks := .later }
def ArithPrintsBackUptoCardSaid : Prop := Claim7.holds Tryz.pinned (.plain (OpenSpec.upto arithPrintsBackSpec)) arithPrintsBackUptoCard

/-- THE SECOND FORM's CARD OF 'periwinklelaw2.MutatedArithReads'. -/
def mutatedArithReadsUptoCard : Claim7 := { stood := { row := mutatedArithReadsUptoRow, standIns := [], harness := (true, "e9bd499456193fd7cd2d594e96626f3c3636d6d4737c58bf6e5150983338921e"), looks := true }, kinds := [], alts := [], laidByText := true, laidKinds := [.data, .data, .data, .data, .sentinel, .sentinel, .pinned], laidTests := true, laidLooks := .later }
def MutatedArithReadsUptoCardSaid : Prop := Claim7.holds Tryz.pinned (.plain (OpenSpec.upto mutatedArithReadsSpec)) mutatedArithReadsUptoCard
end Rows
end Go.Proofs.YtiigclkebnmopaaGreatDoor
