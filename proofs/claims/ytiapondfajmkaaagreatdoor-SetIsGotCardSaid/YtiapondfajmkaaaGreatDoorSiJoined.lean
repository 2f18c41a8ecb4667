/- Closed facts of SetIsGot, each by itself: together they fill the kernel's memory. Builds in 190 s. -/
import Derived.Test.YtiapondfajmkaaaGreatDoorCards
import Derived.Test.YtiapondfajmkaaaGreatDoorTie
import Derived.ProofKit
namespace Go.Proofs.YtiapondfajmkaaaGreatDoor
set_option maxRecDepth 100000
theorem inT : (Rows.setIsGotRow.inPlace == Tryz.pinned.checked.prog.inPlace 3) = true := by kernel_rfl
theorem unfT : Tryz.pinned.checked.prog.unfollowed 3 = true := by kernel_rfl
theorem namedT : (Rows.setIsGotRow.named == Tryz.pinned.checked.prog.varsNamed 3) = true := by kernel_rfl
theorem recT : Tryz.pinned.checked.prog.recurses 3 = true := by
  unfold Program.recurses
  rw [unfT]
  rfl
theorem joined : joinedFacts Tryz.pinned.checked.prog 3 Tryz.f3 (OpenSpec.ofChange Rows.setIsGotSpec).bare Rows.setIsGotRow = true := by
  unfold joinedFacts
  rw [inT, unfT, recT, namedT]
  kernel_rfl
end Go.Proofs.YtiapondfajmkaaaGreatDoor
