/- The first chapter's check refuses a pattern of no kind, so 'landed' answers true. No condition. -/
import Derived.Test.YtclhdppepopgeaaGreatDoorRows
import Derived.WalkKit
import Derived.WalkSpells
import Derived.WalkLawsBesides
import Derived.Lib.Hide
import Derived.Deep.QuietTactic
namespace Go.Proofs.YtclhdppepopgeaaGreatDoor
open Go.RowKit

set_option maxHeartbeats 400000 in
theorem mwithin_no (w : World) :
    Calls Tryz.prog 45 #[.int .i64 (-1), .int .i64 1, .int .i64 7] w fun e w' => e = .returned (.bool false) ∧ w = w' := by
  go_enter Tryz.func45, Tryz.ntmps45
  go_wp2
  go_ret
  exact ⟨rfl, rfl⟩

set_option maxHeartbeats 800000 in
theorem landed_any (w : World) : Calls Tryz.prog 4 #[] w fun e w' => e = .returned (.bool true) ∧ Below w.heap.size w w' := by
  go_enter Tryz.func4, Tryz.ntmps4
  go_wp2
  go_ret
  exact ⟨rfl, by repeat (first | exact Below.refl _ _ | refine Below.drew ?_ | refine Below.alloc ?_ (by simp; try omega) _ | refine Below.setCell ?_ (by simp) _)⟩

theorem ret_bool {a b : Bool} (h : a = b) : Ending.returned (.bool a) = .returned (.bool b) := by rw [h]
theorem ret_int {k : IntKind} {a b : Int} (h : a = b) : Ending.returned (.int k a) = .returned (.int k b) := by rw [h]
theorem ret_str {a b : ByteArray} (h : a = b) : Ending.returned (.string a) = .returned (.string b) := by rw [h]
theorem ret_strInt {a b : ByteArray} {k : IntKind} {i j : Int} (h : a = b) (hi : i = j) : Ending.returned (.tuple #[.string a, .int k i]) = .returned (.tuple #[.string b, .int k j]) := by rw [h, hi]
theorem wrap64_u8 (c : UInt8) : wrap64 (c.toNat : Int) = c.toNat := by
  have := c.toNat_lt; simp [wrap64]; omega

theorem below_drewN {B : Nat} {a w : World} (h : Below B a w) (n : Nat) : Below B a (w.drewN n) := ⟨h.os, h.tape, h.output, h.size, h.block⟩
theorem size_toList (s : ByteArray) : s.data.toList.length = s.size := by rw [Array.length_toList]; rfl
/-- a call that leaves the world alone, met in a second region that draws -/
theorem quiet_same {P : Program} {f : FuncId} {args : Array Value} {w : World} {a n : Nat} {v : Value}
    (h : Calls P f args (w.drewN (a + n)) fun e w' => e = .returned v ∧ w' = w.drewN (a + n)) :
    Calls P f args (w.drewN (a + n)) fun e w' => e = .returned v ∧ ∃ m, w' = w.drewN (a + m) := h.mono fun _ _ hh => ⟨hh.1, n, hh.2⟩

end Go.Proofs.YtclhdppepopgeaaGreatDoor
