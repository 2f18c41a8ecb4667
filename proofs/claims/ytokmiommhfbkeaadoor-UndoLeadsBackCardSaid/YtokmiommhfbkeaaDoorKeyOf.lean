/- The law's keys: keyOf gives some key, whatever the numbers are. -/
import Derived.Test.YtokmiommhfbkeaaDoorBase
import Derived.IntWalk
namespace Go.Proofs.YtokmiommhfbkeaaDoor
open Go.RowKit

theorem tmod_lt (n m : Int) (h : 0 < m) : -m < n.tmod m ∧ n.tmod m < m := by
  have h1 := Int.tmod_lt_of_pos n h
  have h2 := Int.lt_tmod_of_pos n h
  exact ⟨h2, h1⟩
/-- a number between 0 and high -/
def Among (high : Int) (w : World) (e : Ending) (w' : World) : Prop := ∃ r : Int, e = .returned (.int .i64 r) ∧ 0 ≤ r ∧ r ≤ high ∧ w = w'
set_option maxHeartbeats 800000 in
theorem pwithin_any (n high : Int) (w : World) (h0 : 0 ≤ high) (h1 : high ≤ 1000000) :
    Calls Tryd.prog 48 #[.int .i64 n, .int .i64 0, .int .i64 high] w (Among high w) := by
  obtain ⟨m, hm⟩ : ∃ m, high + 1 = m := ⟨_, rfl⟩
  have hz : (m == 0) = false := by rw [beq_eq_false_iff_ne]; omega
  have ht := tmod_lt n m (by omega)
  have hm0 : 0 < m := by omega
  have hm1 : m ≤ 1000001 := by omega
  go_enter Tryd.func48, Tryd.ntmps48
  go_wp2
  go_ret
  have a1 := Int.emod_nonneg (n.tmod m) (show m ≠ 0 by omega)
  have a2 := Int.emod_lt_of_pos (n.tmod m) hm0
  have hw : wrap64 (n.tmod m % m) = n.tmod m % m := by unfold wrap64; omega
  exact ⟨_, rfl, by rw [hw]; exact a1, by rw [hw]; omega, rfl⟩

def SomeKey (w : World) (e : Ending) (w' : World) : Prop := ∃ kind byte : Int, e = .returned (.agg #[.int .i64 kind, .int .i64 byte]) ∧ Below w.heap.size w w'

set_option maxRecDepth 100000 in
set_option maxHeartbeats 1600000 in
theorem keyOf_any (n b : Int) (w : World) (hb1 : -9223372036854775808 ≤ b) (hb2 : b ≤ 9223372036854775807) :
    Calls Tryd.prog 21 #[.int .i64 n, .int .i64 b] w (SomeKey w) := by
  have ht := tmod_lt n 3 (by omega)
  have hq := tmod_lt b 2 (by omega)
  go_enter Tryd.func21, Tryd.ntmps21
  go_wp2_with (go_at_call 48; refine (pwithin_any _ _ _ (by omega) (by omega)).mono ?_; rintro e w' ⟨r, rfl, hr0, hr1, rfl⟩)
  all_goals
    refine bodyPost_ret (v := .agg #[_, _]) (by simp [results, Tryd.results21, go_sem]; exact ⟨rfl, rfl⟩) rfl ⟨_, _, rfl, ?_⟩
    exact ((Below.refl _ w).alloc (Nat.le_refl _) _).alloc (by simp) _

end Go.Proofs.YtokmiommhfbkeaaDoor
