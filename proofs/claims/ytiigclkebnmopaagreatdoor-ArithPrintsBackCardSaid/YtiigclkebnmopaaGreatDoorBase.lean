/- The first chapter's check refuses a pattern of no kind, so 'landed' answers true. No condition. -/
import Derived.Test.YtiigclkebnmopaaGreatDoorRows
import Derived.WalkKit
import Derived.WalkSpells
import Derived.WalkLawsBesides
import Derived.Lib.Hide
import Derived.Deep.QuietTactic
namespace Go.Proofs.YtiigclkebnmopaaGreatDoor
open Go.RowKit

set_option maxHeartbeats 800000 in
theorem landed_any (w : World) : Calls Tryz.prog 6 #[] w fun e w' => e = .returned (.bool true) ∧ Below w.heap.size w w' := by
  go_enter Tryz.func6, Tryz.ntmps6
  go_wp2
  go_ret
  exact ⟨rfl, by repeat (first | exact Below.refl _ _ | refine Below.drew ?_ | refine Below.alloc ?_ (by simp; try omega) _ | refine Below.setCell ?_ (by simp) _)⟩

theorem ret_bool {a b : Bool} (h : a = b) : Ending.returned (.bool a) = .returned (.bool b) := by rw [h]
theorem ret_int {k : IntKind} {a b : Int} (h : a = b) : Ending.returned (.int k a) = .returned (.int k b) := by rw [h]
theorem wrap64_u8 (c : UInt8) : wrap64 (c.toNat : Int) = c.toNat := by
  have := c.toNat_lt; simp [wrap64]; omega

end Go.Proofs.YtiigclkebnmopaaGreatDoor
