/- Closed facts of TildeMatches, each by itself: together they fill the kernel's memory. Builds in 190 s. -/
import Derived.Test.YtlhmlbhpflgbpaaGreatDoorCards
import Derived.Test.YtlhmlbhpflgbpaaGreatDoorTie
import Derived.ProofKit
namespace Go.Proofs.YtlhmlbhpflgbpaaGreatDoor
set_option maxRecDepth 100000
theorem inT : (Rows.tildeMatchesRow.inPlace == Tryz.pinned.checked.prog.inPlace 3) = true := by kernel_rfl
theorem unfT : Tryz.pinned.checked.prog.unfollowed 3 = true := by kernel_rfl
theorem namedT : (Rows.tildeMatchesRow.named == Tryz.pinned.checked.prog.varsNamed 3) = true := by kernel_rfl
theorem recT : Tryz.pinned.checked.prog.recurses 3 = true := by
  unfold Program.recurses
  rw [unfT]
  rfl
theorem joined : joinedFacts Tryz.pinned.checked.prog 3 Tryz.f3 (OpenSpec.ofChange Rows.tildeMatchesSpec).bare Rows.tildeMatchesRow = true := by
  unfold joinedFacts
  rw [inT, unfT, recT, namedT]
  kernel_rfl
end Go.Proofs.YtlhmlbhpflgbpaaGreatDoor
