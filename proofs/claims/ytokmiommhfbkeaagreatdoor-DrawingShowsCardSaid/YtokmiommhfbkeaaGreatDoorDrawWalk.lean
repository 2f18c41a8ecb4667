/- The program's Draw returns what drawL tells, for all rows and columns. -/
import Derived.Test.YtokmiommhfbkeaaGreatDoorDrawLaw
namespace Go.Proofs.YtokmiommhfbkeaaGreatDoor
open Go.RowKit

def drawR (row : ByteArray) (col : Int) (tt : ByteArray) (toCol : Int) : Value :=
  .tuple #[.string ⟨(drawL row.data.toList col tt.data.toList toCol).1.toArray⟩, .int .i64 (drawL row.data.toList col tt.data.toList toCol).2]
theorem drawR_of {row : ByteArray} {col : Int} {tt : ByteArray} {toCol : Int} {a : ByteArray} {i : Int} (h : drawL row.data.toList col tt.data.toList toCol = (a.data.toList, i)) :
    Ending.returned (.tuple #[.string a, .int .i64 i]) = .returned (drawR row col tt toCol) := by
  unfold drawR; rw [h]

set_option maxHeartbeats 800000 in
theorem draw_wrong (row : ByteArray) (col : Int) (tt : ByteArray) (toCol : Int) (w : World) (hs : row.size ≤ maxLen) (ht : tt.size ≤ maxLen) (hw : (wrongB row.data.toList || wrongB tt.data.toList) = true) :
    Calls Tryz.prog 21 #[.string row, .int .i64 col, .string tt, .int .i64 toCol] w fun e w' => e = .returned (drawR row col tt toCol) ∧ Below w.heap.size w w' := by
  have hfin := Lib.hid (show drawL row.data.toList col tt.data.toList toCol = ([], 5) by unfold drawL; rw [if_pos hw])
  cases hr : wrongB row.data.toList
  · have ht2 : wrongB tt.data.toList = true := by simpa [hr] using hw
    clear hw
    go_enter Tryz.func21, Tryz.ntmps21
    go_wp2_with (go_at_call 55; refine (wrong_any _ _ (by assumption)).mono ?_; rintro e w' ⟨rfl, rfl⟩)
    go_ret2
    exact ⟨drawR_of (by rw [hfin.out]), Below.refl _ _⟩
  · clear hw
    go_enter Tryz.func21, Tryz.ntmps21
    go_wp2_with (go_at_call 55; refine (wrong_any _ _ (by assumption)).mono ?_; rintro e w' ⟨rfl, rfl⟩)
    go_ret2
    exact ⟨drawR_of (by rw [hfin.out]), Below.refl _ _⟩

set_option maxHeartbeats 800000 in
theorem draw_large (row : ByteArray) (col : Int) (tt : ByteArray) (toCol : Int) (w : World) (hs : row.size ≤ maxLen) (ht : tt.size ≤ maxLen) (hw : (wrongB row.data.toList || wrongB tt.data.toList) = false) (hl : 200 < row.size ∨ 200 < tt.size) :
    Calls Tryz.prog 21 #[.string row, .int .i64 col, .string tt, .int .i64 toCol] w fun e w' => e = .returned (drawR row col tt toCol) ∧ Below w.heap.size w w' := by
  have hfin := Lib.hid (show drawL row.data.toList col tt.data.toList toCol = ([], 2) by unfold drawL; rw [if_neg (by simp [hw]), if_pos (by rw [size_toList, size_toList]; exact hl)])
  have hr : wrongB row.data.toList = false := by simp at hw; exact hw.1
  have ht2 : wrongB tt.data.toList = false := by simp at hw; exact hw.2
  clear hw
  by_cases c1 : 200 < row.size
  · clear hl
    go_enter Tryz.func21, Tryz.ntmps21
    go_wp2_with (go_at_call 55; refine (wrong_any _ _ (by assumption)).mono ?_; rintro e w' ⟨rfl, rfl⟩)
    go_ret2
    exact ⟨drawR_of (by rw [hfin.out]), Below.refl _ _⟩
  · have c2 : 200 < tt.size := by omega
    clear hl
    go_enter Tryz.func21, Tryz.ntmps21
    go_wp2_with (go_at_call 55; refine (wrong_any _ _ (by assumption)).mono ?_; rintro e w' ⟨rfl, rfl⟩)
    go_ret2
    exact ⟨drawR_of (by rw [hfin.out]), Below.refl _ _⟩

set_option maxHeartbeats 800000 in
theorem draw_range (row : ByteArray) (col : Int) (tt : ByteArray) (toCol : Int) (w : World) (hs : row.size ≤ maxLen) (ht : tt.size ≤ maxLen) (hw : (wrongB row.data.toList || wrongB tt.data.toList) = false) (hl : row.size ≤ 200) (hl2 : tt.size ≤ 200) (hc : ¬ (0 ≤ col ∧ col ≤ 200 ∧ 0 ≤ toCol ∧ toCol ≤ 200)) :
    Calls Tryz.prog 21 #[.string row, .int .i64 col, .string tt, .int .i64 toCol] w fun e w' => e = .returned (drawR row col tt toCol) ∧ Below w.heap.size w w' := by
  have hfin := Lib.hid (show drawL row.data.toList col tt.data.toList toCol = ([], 3) by unfold drawL; rw [if_neg (by simp [hw]), if_neg (by rw [size_toList, size_toList]; omega), if_pos hc])
  have hr : wrongB row.data.toList = false := by simp at hw; exact hw.1
  have ht2 : wrongB tt.data.toList = false := by simp at hw; exact hw.2
  clear hw
  cases c1 : withinB col 0 200
  · clear hc
    go_enter Tryz.func21, Tryz.ntmps21
    go_wp2_with (first | (go_at_call 55; refine (wrong_any _ _ (by assumption)).mono ?_; rintro e w' ⟨rfl, rfl⟩) | (go_at_call 53; refine (within_any _ _ _ _).mono ?_; rintro e w' ⟨rfl, rfl⟩))
    go_ret2
    exact ⟨drawR_of (by rw [hfin.out]), Below.refl _ _⟩
  · have c2 : withinB toCol 0 200 = false := by
      cases c2 : withinB toCol 0 200
      · rfl
      · exfalso; simp [withinB] at c1 c2; omega
    clear hc
    go_enter Tryz.func21, Tryz.ntmps21
    go_wp2_with (first | (go_at_call 55; refine (wrong_any _ _ (by assumption)).mono ?_; rintro e w' ⟨rfl, rfl⟩) | (go_at_call 53; refine (within_any _ _ _ _).mono ?_; rintro e w' ⟨rfl, rfl⟩))
    go_ret2
    exact ⟨drawR_of (by rw [hfin.out]), Below.refl _ _⟩


end Go.Proofs.YtokmiommhfbkeaaGreatDoor
