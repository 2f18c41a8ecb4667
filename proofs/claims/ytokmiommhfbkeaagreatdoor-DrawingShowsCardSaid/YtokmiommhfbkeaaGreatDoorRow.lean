/- A text of bytes that take one column each: what the program's isRow and the reference's visible tell. For every text. -/
import Derived.Test.YtokmiommhfbkeaaGreatDoorBase
namespace Go.Proofs.YtokmiommhfbkeaaGreatDoor
open Go.RowKit

def withinB (n lo hi : Int) : Bool := decide (lo ≤ n) && decide (n ≤ hi)

set_option maxHeartbeats 400000 in
theorem within_any (n lo hi : Int) (w : World) :
    Calls Tryz.prog 53 #[.int .i64 n, .int .i64 lo, .int .i64 hi] w fun e w' => e = .returned (.bool (withinB n lo hi)) ∧ w = w' := by
  by_cases h1 : lo ≤ n
  · go_enter Tryz.func53, Tryz.ntmps53
    go_wp2
    go_ret
    exact ⟨ret_bool (by simp [withinB]; try omega), rfl⟩
  · go_enter Tryz.func53, Tryz.ntmps53
    go_wp2
    go_ret
    exact ⟨ret_bool (by simp [withinB]; try omega), rfl⟩

def okB (c : UInt8) : Bool := withinB c.toNat 32 126
def rowB (l : List UInt8) : Bool := l.all okB

theorem take_snoc (s : ByteArray) (k : Nat) (h : k < s.size) : s.data.toList.take (k + 1) = s.data.toList.take k ++ [s[k]] := by
  rw [List.take_succ_eq_append_getElem (by simpa using h)]; rfl
theorem rowB_step (s : ByteArray) (k : Nat) (h : k < s.size) (h0 : rowB (s.data.toList.take k) = true) (h1 : okB s[k] = true) : rowB (s.data.toList.take (k + 1)) = true := by
  unfold rowB at *; rw [take_snoc s k h, List.all_append, h0]; simp [h1]
theorem rowB_no (s : ByteArray) (k : Nat) (h : k < s.size) (h1 : okB s[k] = false) : rowB s.data.toList = false := by
  unfold rowB; rw [List.all_eq_false]; exact ⟨s[k], by rw [Array.mem_toList_iff]; exact Array.getElem_mem h, by simp [h1]⟩
theorem rowB_all (s : ByteArray) (k : Nat) (h : ¬ k < s.size) (h0 : rowB (s.data.toList.take k) = true) : rowB s.data.toList = true := by
  rwa [List.take_of_length_le (by simp; simp at h; omega)] at h0

set_option maxHeartbeats 400000 in
theorem isRow_any (s : ByteArray) (w : World) (hs : s.size ≤ maxLen) :
    Calls Tryz.prog 52 #[.string s] w fun e w' => e = .returned (.bool (rowB s.data.toList)) ∧ w = w' := by
  unfold maxLen at hs
  go_enter Tryz.func52, Tryz.ntmps52
  go_wp2
  go_loop [6] (fun i => ∃ k : Nat, k ≤ s.size ∧ i = .int .i64 k ∧ Hid (rowB (s.data.toList.take k) = true)) (fun i => s.size - (intOf i).toNat)
  case atStart => exact ⟨0, Nat.zero_le _, rfl, by simp [Hid, rowB]⟩
  case round =>
    obtain ⟨k, hk, rfl, HR⟩ := hrel
    by_cases hlt : k < s.size
    · cases hb : okB s[k]
      · have hno := rowB_no s k hlt hb
        have hw : withinB (wrap64 (s[k].toNat : Int)) 32 126 = false := by rw [wrap64_u8]; exact hb
        have HN := Lib.hid hno
        clear hb hno
        go_wp2_with (go_at_call 53; refine (within_any _ _ _ _).mono ?_; rintro e w' ⟨rfl, rfl⟩)
        go_ret
        exact ⟨ret_bool HN.out.symm, rfl⟩
      · have hn := rowB_step s k hlt HR.out hb
        have hw : withinB (wrap64 (s[k].toNat : Int)) 32 126 = true := by rw [wrap64_u8]; exact hb
        have HN := Lib.hid hn
        clear hb hn
        go_wp2_with (go_at_call 53; refine (within_any _ _ _ _).mono ?_; rintro e w' ⟨rfl, rfl⟩)
        go_round
        case rel => exact ⟨k + 1, by omega, by go_num, HN⟩
        case measure => simp [intOf]; omega
    · go_wp2
      go_ret
      exact ⟨ret_bool (rowB_all s k hlt HR.out).symm, rfl⟩

end Go.Proofs.YtokmiommhfbkeaaGreatDoor
