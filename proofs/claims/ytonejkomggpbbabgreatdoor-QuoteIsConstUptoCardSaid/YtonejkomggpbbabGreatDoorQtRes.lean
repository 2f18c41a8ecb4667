/- QuoteIsConst: whether a text is a reserved word. -/
import Derived.Test.YtonejkomggpbbabGreatDoorQtLaw
import Derived.Test.YtonejkomggpbbabGreatDoorArSign
namespace Go.Proofs.YtonejkomggpbbabGreatDoor
open Go.RowKit Go.Shelf

theorem lit_eq (s l : List UInt8) (b : Bool) (h : decide (s = l) = b) : ((toB s).toList == l) = b := by
  have h1 := toB_eq s l
  rwa [show (toB l).toList = l from by simp [toB, ByteArray.toList_eq], h] at h1
set_option maxRecDepth 100000 in
set_option maxHeartbeats 3200000 in
theorem isReserved_any (s : List UInt8) (w : World) : Calls Tryz.prog 16 #[.string (toB s)] w fun e w' => e = .returned (.bool (reservedQ.contains s)) ∧ w' = w := by
  by_cases hm : s ∈ reservedQ
  · have hm2 := hm
    simp only [reservedQ, List.mem_cons, List.not_mem_nil, or_false] at hm2
    rcases hm2 with rfl | rfl | rfl | rfl | rfl | rfl | rfl | rfl | rfl | rfl | rfl | rfl | rfl | rfl | rfl
    · have e0 : ((toB [105, 102]).toList == ([105, 102] : List UInt8)) = true := lit_eq [105, 102] [105, 102] _ (by decide)
      go_enter Tryz.func16, Tryz.ntmps16
      go_wp2_with fail
      go_ret
      exact ⟨rfl, rfl⟩
    · have e0 : ((toB [116, 104, 101, 110]).toList == ([105, 102] : List UInt8)) = false := lit_eq [116, 104, 101, 110] [105, 102] _ (by decide)
      have e1 : ((toB [116, 104, 101, 110]).toList == ([116, 104, 101, 110] : List UInt8)) = true := lit_eq [116, 104, 101, 110] [116, 104, 101, 110] _ (by decide)
      go_enter Tryz.func16, Tryz.ntmps16
      go_wp2_with fail
      go_ret
      exact ⟨rfl, rfl⟩
    · have e0 : ((toB [101, 108, 105, 102]).toList == ([105, 102] : List UInt8)) = false := lit_eq [101, 108, 105, 102] [105, 102] _ (by decide)
      have e1 : ((toB [101, 108, 105, 102]).toList == ([116, 104, 101, 110] : List UInt8)) = false := lit_eq [101, 108, 105, 102] [116, 104, 101, 110] _ (by decide)
      have e2 : ((toB [101, 108, 105, 102]).toList == ([101, 108, 105, 102] : List UInt8)) = true := lit_eq [101, 108, 105, 102] [101, 108, 105, 102] _ (by decide)
      go_enter Tryz.func16, Tryz.ntmps16
      go_wp2_with fail
      go_ret
      exact ⟨rfl, rfl⟩
    · have e0 : ((toB [101, 108, 115, 101]).toList == ([105, 102] : List UInt8)) = false := lit_eq [101, 108, 115, 101] [105, 102] _ (by decide)
      have e1 : ((toB [101, 108, 115, 101]).toList == ([116, 104, 101, 110] : List UInt8)) = false := lit_eq [101, 108, 115, 101] [116, 104, 101, 110] _ (by decide)
      have e2 : ((toB [101, 108, 115, 101]).toList == ([101, 108, 105, 102] : List UInt8)) = false := lit_eq [101, 108, 115, 101] [101, 108, 105, 102] _ (by decide)
      have e3 : ((toB [101, 108, 115, 101]).toList == ([101, 108, 115, 101] : List UInt8)) = true := lit_eq [101, 108, 115, 101] [101, 108, 115, 101] _ (by decide)
      go_enter Tryz.func16, Tryz.ntmps16
      go_wp2_with fail
      go_ret
      exact ⟨rfl, rfl⟩
    · have e0 : ((toB [102, 105]).toList == ([105, 102] : List UInt8)) = false := lit_eq [102, 105] [105, 102] _ (by decide)
      have e1 : ((toB [102, 105]).toList == ([116, 104, 101, 110] : List UInt8)) = false := lit_eq [102, 105] [116, 104, 101, 110] _ (by decide)
      have e2 : ((toB [102, 105]).toList == ([101, 108, 105, 102] : List UInt8)) = false := lit_eq [102, 105] [101, 108, 105, 102] _ (by decide)
      have e3 : ((toB [102, 105]).toList == ([101, 108, 115, 101] : List UInt8)) = false := lit_eq [102, 105] [101, 108, 115, 101] _ (by decide)
      have e4 : ((toB [102, 105]).toList == ([102, 105] : List UInt8)) = true := lit_eq [102, 105] [102, 105] _ (by decide)
      go_enter Tryz.func16, Tryz.ntmps16
      go_wp2_with fail
      go_ret
      exact ⟨rfl, rfl⟩
    · have e0 : ((toB [119, 104, 105, 108, 101]).toList == ([105, 102] : List UInt8)) = false := lit_eq [119, 104, 105, 108, 101] [105, 102] _ (by decide)
      have e1 : ((toB [119, 104, 105, 108, 101]).toList == ([116, 104, 101, 110] : List UInt8)) = false := lit_eq [119, 104, 105, 108, 101] [116, 104, 101, 110] _ (by decide)
      have e2 : ((toB [119, 104, 105, 108, 101]).toList == ([101, 108, 105, 102] : List UInt8)) = false := lit_eq [119, 104, 105, 108, 101] [101, 108, 105, 102] _ (by decide)
      have e3 : ((toB [119, 104, 105, 108, 101]).toList == ([101, 108, 115, 101] : List UInt8)) = false := lit_eq [119, 104, 105, 108, 101] [101, 108, 115, 101] _ (by decide)
      have e4 : ((toB [119, 104, 105, 108, 101]).toList == ([102, 105] : List UInt8)) = false := lit_eq [119, 104, 105, 108, 101] [102, 105] _ (by decide)
      have e5 : ((toB [119, 104, 105, 108, 101]).toList == ([119, 104, 105, 108, 101] : List UInt8)) = true := lit_eq [119, 104, 105, 108, 101] [119, 104, 105, 108, 101] _ (by decide)
      go_enter Tryz.func16, Tryz.ntmps16
      go_wp2_with fail
      go_ret
      exact ⟨rfl, rfl⟩
    · have e0 : ((toB [117, 110, 116, 105, 108]).toList == ([105, 102] : List UInt8)) = false := lit_eq [117, 110, 116, 105, 108] [105, 102] _ (by decide)
      have e1 : ((toB [117, 110, 116, 105, 108]).toList == ([116, 104, 101, 110] : List UInt8)) = false := lit_eq [117, 110, 116, 105, 108] [116, 104, 101, 110] _ (by decide)
      have e2 : ((toB [117, 110, 116, 105, 108]).toList == ([101, 108, 105, 102] : List UInt8)) = false := lit_eq [117, 110, 116, 105, 108] [101, 108, 105, 102] _ (by decide)
      have e3 : ((toB [117, 110, 116, 105, 108]).toList == ([101, 108, 115, 101] : List UInt8)) = false := lit_eq [117, 110, 116, 105, 108] [101, 108, 115, 101] _ (by decide)
      have e4 : ((toB [117, 110, 116, 105, 108]).toList == ([102, 105] : List UInt8)) = false := lit_eq [117, 110, 116, 105, 108] [102, 105] _ (by decide)
      have e5 : ((toB [117, 110, 116, 105, 108]).toList == ([119, 104, 105, 108, 101] : List UInt8)) = false := lit_eq [117, 110, 116, 105, 108] [119, 104, 105, 108, 101] _ (by decide)
      have e6 : ((toB [117, 110, 116, 105, 108]).toList == ([117, 110, 116, 105, 108] : List UInt8)) = true := lit_eq [117, 110, 116, 105, 108] [117, 110, 116, 105, 108] _ (by decide)
      go_enter Tryz.func16, Tryz.ntmps16
      go_wp2_with fail
      go_ret
      exact ⟨rfl, rfl⟩
    · have e0 : ((toB [102, 111, 114]).toList == ([105, 102] : List UInt8)) = false := lit_eq [102, 111, 114] [105, 102] _ (by decide)
      have e1 : ((toB [102, 111, 114]).toList == ([116, 104, 101, 110] : List UInt8)) = false := lit_eq [102, 111, 114] [116, 104, 101, 110] _ (by decide)
      have e2 : ((toB [102, 111, 114]).toList == ([101, 108, 105, 102] : List UInt8)) = false := lit_eq [102, 111, 114] [101, 108, 105, 102] _ (by decide)
      have e3 : ((toB [102, 111, 114]).toList == ([101, 108, 115, 101] : List UInt8)) = false := lit_eq [102, 111, 114] [101, 108, 115, 101] _ (by decide)
      have e4 : ((toB [102, 111, 114]).toList == ([102, 105] : List UInt8)) = false := lit_eq [102, 111, 114] [102, 105] _ (by decide)
      have e5 : ((toB [102, 111, 114]).toList == ([119, 104, 105, 108, 101] : List UInt8)) = false := lit_eq [102, 111, 114] [119, 104, 105, 108, 101] _ (by decide)
      have e6 : ((toB [102, 111, 114]).toList == ([117, 110, 116, 105, 108] : List UInt8)) = false := lit_eq [102, 111, 114] [117, 110, 116, 105, 108] _ (by decide)
      have e7 : ((toB [102, 111, 114]).toList == ([102, 111, 114] : List UInt8)) = true := lit_eq [102, 111, 114] [102, 111, 114] _ (by decide)
      go_enter Tryz.func16, Tryz.ntmps16
      go_wp2_with fail
      go_ret
      exact ⟨rfl, rfl⟩
    · have e0 : ((toB [100, 111]).toList == ([105, 102] : List UInt8)) = false := lit_eq [100, 111] [105, 102] _ (by decide)
      have e1 : ((toB [100, 111]).toList == ([116, 104, 101, 110] : List UInt8)) = false := lit_eq [100, 111] [116, 104, 101, 110] _ (by decide)
      have e2 : ((toB [100, 111]).toList == ([101, 108, 105, 102] : List UInt8)) = false := lit_eq [100, 111] [101, 108, 105, 102] _ (by decide)
      have e3 : ((toB [100, 111]).toList == ([101, 108, 115, 101] : List UInt8)) = false := lit_eq [100, 111] [101, 108, 115, 101] _ (by decide)
      have e4 : ((toB [100, 111]).toList == ([102, 105] : List UInt8)) = false := lit_eq [100, 111] [102, 105] _ (by decide)
      have e5 : ((toB [100, 111]).toList == ([119, 104, 105, 108, 101] : List UInt8)) = false := lit_eq [100, 111] [119, 104, 105, 108, 101] _ (by decide)
      have e6 : ((toB [100, 111]).toList == ([117, 110, 116, 105, 108] : List UInt8)) = false := lit_eq [100, 111] [117, 110, 116, 105, 108] _ (by decide)
      have e7 : ((toB [100, 111]).toList == ([102, 111, 114] : List UInt8)) = false := lit_eq [100, 111] [102, 111, 114] _ (by decide)
      have e8 : ((toB [100, 111]).toList == ([100, 111] : List UInt8)) = true := lit_eq [100, 111] [100, 111] _ (by decide)
      go_enter Tryz.func16, Tryz.ntmps16
      go_wp2_with fail
      go_ret
      exact ⟨rfl, rfl⟩
    · have e0 : ((toB [100, 111, 110, 101]).toList == ([105, 102] : List UInt8)) = false := lit_eq [100, 111, 110, 101] [105, 102] _ (by decide)
      have e1 : ((toB [100, 111, 110, 101]).toList == ([116, 104, 101, 110] : List UInt8)) = false := lit_eq [100, 111, 110, 101] [116, 104, 101, 110] _ (by decide)
      have e2 : ((toB [100, 111, 110, 101]).toList == ([101, 108, 105, 102] : List UInt8)) = false := lit_eq [100, 111, 110, 101] [101, 108, 105, 102] _ (by decide)
      have e3 : ((toB [100, 111, 110, 101]).toList == ([101, 108, 115, 101] : List UInt8)) = false := lit_eq [100, 111, 110, 101] [101, 108, 115, 101] _ (by decide)
      have e4 : ((toB [100, 111, 110, 101]).toList == ([102, 105] : List UInt8)) = false := lit_eq [100, 111, 110, 101] [102, 105] _ (by decide)
      have e5 : ((toB [100, 111, 110, 101]).toList == ([119, 104, 105, 108, 101] : List UInt8)) = false := lit_eq [100, 111, 110, 101] [119, 104, 105, 108, 101] _ (by decide)
      have e6 : ((toB [100, 111, 110, 101]).toList == ([117, 110, 116, 105, 108] : List UInt8)) = false := lit_eq [100, 111, 110, 101] [117, 110, 116, 105, 108] _ (by decide)
      have e7 : ((toB [100, 111, 110, 101]).toList == ([102, 111, 114] : List UInt8)) = false := lit_eq [100, 111, 110, 101] [102, 111, 114] _ (by decide)
      have e8 : ((toB [100, 111, 110, 101]).toList == ([100, 111] : List UInt8)) = false := lit_eq [100, 111, 110, 101] [100, 111] _ (by decide)
      have e9 : ((toB [100, 111, 110, 101]).toList == ([100, 111, 110, 101] : List UInt8)) = true := lit_eq [100, 111, 110, 101] [100, 111, 110, 101] _ (by decide)
      go_enter Tryz.func16, Tryz.ntmps16
      go_wp2_with fail
      go_ret
      exact ⟨rfl, rfl⟩
    · have e0 : ((toB [99, 97, 115, 101]).toList == ([105, 102] : List UInt8)) = false := lit_eq [99, 97, 115, 101] [105, 102] _ (by decide)
      have e1 : ((toB [99, 97, 115, 101]).toList == ([116, 104, 101, 110] : List UInt8)) = false := lit_eq [99, 97, 115, 101] [116, 104, 101, 110] _ (by decide)
      have e2 : ((toB [99, 97, 115, 101]).toList == ([101, 108, 105, 102] : List UInt8)) = false := lit_eq [99, 97, 115, 101] [101, 108, 105, 102] _ (by decide)
      have e3 : ((toB [99, 97, 115, 101]).toList == ([101, 108, 115, 101] : List UInt8)) = false := lit_eq [99, 97, 115, 101] [101, 108, 115, 101] _ (by decide)
      have e4 : ((toB [99, 97, 115, 101]).toList == ([102, 105] : List UInt8)) = false := lit_eq [99, 97, 115, 101] [102, 105] _ (by decide)
      have e5 : ((toB [99, 97, 115, 101]).toList == ([119, 104, 105, 108, 101] : List UInt8)) = false := lit_eq [99, 97, 115, 101] [119, 104, 105, 108, 101] _ (by decide)
      have e6 : ((toB [99, 97, 115, 101]).toList == ([117, 110, 116, 105, 108] : List UInt8)) = false := lit_eq [99, 97, 115, 101] [117, 110, 116, 105, 108] _ (by decide)
      have e7 : ((toB [99, 97, 115, 101]).toList == ([102, 111, 114] : List UInt8)) = false := lit_eq [99, 97, 115, 101] [102, 111, 114] _ (by decide)
      have e8 : ((toB [99, 97, 115, 101]).toList == ([100, 111] : List UInt8)) = false := lit_eq [99, 97, 115, 101] [100, 111] _ (by decide)
      have e9 : ((toB [99, 97, 115, 101]).toList == ([100, 111, 110, 101] : List UInt8)) = false := lit_eq [99, 97, 115, 101] [100, 111, 110, 101] _ (by decide)
      have e10 : ((toB [99, 97, 115, 101]).toList == ([99, 97, 115, 101] : List UInt8)) = true := lit_eq [99, 97, 115, 101] [99, 97, 115, 101] _ (by decide)
      go_enter Tryz.func16, Tryz.ntmps16
      go_wp2_with fail
      go_ret
      exact ⟨rfl, rfl⟩
    · have e0 : ((toB [101, 115, 97, 99]).toList == ([105, 102] : List UInt8)) = false := lit_eq [101, 115, 97, 99] [105, 102] _ (by decide)
      have e1 : ((toB [101, 115, 97, 99]).toList == ([116, 104, 101, 110] : List UInt8)) = false := lit_eq [101, 115, 97, 99] [116, 104, 101, 110] _ (by decide)
      have e2 : ((toB [101, 115, 97, 99]).toList == ([101, 108, 105, 102] : List UInt8)) = false := lit_eq [101, 115, 97, 99] [101, 108, 105, 102] _ (by decide)
      have e3 : ((toB [101, 115, 97, 99]).toList == ([101, 108, 115, 101] : List UInt8)) = false := lit_eq [101, 115, 97, 99] [101, 108, 115, 101] _ (by decide)
      have e4 : ((toB [101, 115, 97, 99]).toList == ([102, 105] : List UInt8)) = false := lit_eq [101, 115, 97, 99] [102, 105] _ (by decide)
      have e5 : ((toB [101, 115, 97, 99]).toList == ([119, 104, 105, 108, 101] : List UInt8)) = false := lit_eq [101, 115, 97, 99] [119, 104, 105, 108, 101] _ (by decide)
      have e6 : ((toB [101, 115, 97, 99]).toList == ([117, 110, 116, 105, 108] : List UInt8)) = false := lit_eq [101, 115, 97, 99] [117, 110, 116, 105, 108] _ (by decide)
      have e7 : ((toB [101, 115, 97, 99]).toList == ([102, 111, 114] : List UInt8)) = false := lit_eq [101, 115, 97, 99] [102, 111, 114] _ (by decide)
      have e8 : ((toB [101, 115, 97, 99]).toList == ([100, 111] : List UInt8)) = false := lit_eq [101, 115, 97, 99] [100, 111] _ (by decide)
      have e9 : ((toB [101, 115, 97, 99]).toList == ([100, 111, 110, 101] : List UInt8)) = false := lit_eq [101, 115, 97, 99] [100, 111, 110, 101] _ (by decide)
      have e10 : ((toB [101, 115, 97, 99]).toList == ([99, 97, 115, 101] : List UInt8)) = false := lit_eq [101, 115, 97, 99] [99, 97, 115, 101] _ (by decide)
      have e11 : ((toB [101, 115, 97, 99]).toList == ([101, 115, 97, 99] : List UInt8)) = true := lit_eq [101, 115, 97, 99] [101, 115, 97, 99] _ (by decide)
      go_enter Tryz.func16, Tryz.ntmps16
      go_wp2_with fail
      go_ret
      exact ⟨rfl, rfl⟩
    · have e0 : ((toB [123]).toList == ([105, 102] : List UInt8)) = false := lit_eq [123] [105, 102] _ (by decide)
      have e1 : ((toB [123]).toList == ([116, 104, 101, 110] : List UInt8)) = false := lit_eq [123] [116, 104, 101, 110] _ (by decide)
      have e2 : ((toB [123]).toList == ([101, 108, 105, 102] : List UInt8)) = false := lit_eq [123] [101, 108, 105, 102] _ (by decide)
      have e3 : ((toB [123]).toList == ([101, 108, 115, 101] : List UInt8)) = false := lit_eq [123] [101, 108, 115, 101] _ (by decide)
      have e4 : ((toB [123]).toList == ([102, 105] : List UInt8)) = false := lit_eq [123] [102, 105] _ (by decide)
      have e5 : ((toB [123]).toList == ([119, 104, 105, 108, 101] : List UInt8)) = false := lit_eq [123] [119, 104, 105, 108, 101] _ (by decide)
      have e6 : ((toB [123]).toList == ([117, 110, 116, 105, 108] : List UInt8)) = false := lit_eq [123] [117, 110, 116, 105, 108] _ (by decide)
      have e7 : ((toB [123]).toList == ([102, 111, 114] : List UInt8)) = false := lit_eq [123] [102, 111, 114] _ (by decide)
      have e8 : ((toB [123]).toList == ([100, 111] : List UInt8)) = false := lit_eq [123] [100, 111] _ (by decide)
      have e9 : ((toB [123]).toList == ([100, 111, 110, 101] : List UInt8)) = false := lit_eq [123] [100, 111, 110, 101] _ (by decide)
      have e10 : ((toB [123]).toList == ([99, 97, 115, 101] : List UInt8)) = false := lit_eq [123] [99, 97, 115, 101] _ (by decide)
      have e11 : ((toB [123]).toList == ([101, 115, 97, 99] : List UInt8)) = false := lit_eq [123] [101, 115, 97, 99] _ (by decide)
      have e12 : ((toB [123]).toList == ([123] : List UInt8)) = true := lit_eq [123] [123] _ (by decide)
      go_enter Tryz.func16, Tryz.ntmps16
      go_wp2_with fail
      go_ret
      exact ⟨rfl, rfl⟩
    · have e0 : ((toB [125]).toList == ([105, 102] : List UInt8)) = false := lit_eq [125] [105, 102] _ (by decide)
      have e1 : ((toB [125]).toList == ([116, 104, 101, 110] : List UInt8)) = false := lit_eq [125] [116, 104, 101, 110] _ (by decide)
      have e2 : ((toB [125]).toList == ([101, 108, 105, 102] : List UInt8)) = false := lit_eq [125] [101, 108, 105, 102] _ (by decide)
      have e3 : ((toB [125]).toList == ([101, 108, 115, 101] : List UInt8)) = false := lit_eq [125] [101, 108, 115, 101] _ (by decide)
      have e4 : ((toB [125]).toList == ([102, 105] : List UInt8)) = false := lit_eq [125] [102, 105] _ (by decide)
      have e5 : ((toB [125]).toList == ([119, 104, 105, 108, 101] : List UInt8)) = false := lit_eq [125] [119, 104, 105, 108, 101] _ (by decide)
      have e6 : ((toB [125]).toList == ([117, 110, 116, 105, 108] : List UInt8)) = false := lit_eq [125] [117, 110, 116, 105, 108] _ (by decide)
      have e7 : ((toB [125]).toList == ([102, 111, 114] : List UInt8)) = false := lit_eq [125] [102, 111, 114] _ (by decide)
      have e8 : ((toB [125]).toList == ([100, 111] : List UInt8)) = false := lit_eq [125] [100, 111] _ (by decide)
      have e9 : ((toB [125]).toList == ([100, 111, 110, 101] : List UInt8)) = false := lit_eq [125] [100, 111, 110, 101] _ (by decide)
      have e10 : ((toB [125]).toList == ([99, 97, 115, 101] : List UInt8)) = false := lit_eq [125] [99, 97, 115, 101] _ (by decide)
      have e11 : ((toB [125]).toList == ([101, 115, 97, 99] : List UInt8)) = false := lit_eq [125] [101, 115, 97, 99] _ (by decide)
      have e12 : ((toB [125]).toList == ([123] : List UInt8)) = false := lit_eq [125] [123] _ (by decide)
      have e13 : ((toB [125]).toList == ([125] : List UInt8)) = true := lit_eq [125] [125] _ (by decide)
      go_enter Tryz.func16, Tryz.ntmps16
      go_wp2_with fail
      go_ret
      exact ⟨rfl, rfl⟩
    · have e0 : ((toB [33]).toList == ([105, 102] : List UInt8)) = false := lit_eq [33] [105, 102] _ (by decide)
      have e1 : ((toB [33]).toList == ([116, 104, 101, 110] : List UInt8)) = false := lit_eq [33] [116, 104, 101, 110] _ (by decide)
      have e2 : ((toB [33]).toList == ([101, 108, 105, 102] : List UInt8)) = false := lit_eq [33] [101, 108, 105, 102] _ (by decide)
      have e3 : ((toB [33]).toList == ([101, 108, 115, 101] : List UInt8)) = false := lit_eq [33] [101, 108, 115, 101] _ (by decide)
      have e4 : ((toB [33]).toList == ([102, 105] : List UInt8)) = false := lit_eq [33] [102, 105] _ (by decide)
      have e5 : ((toB [33]).toList == ([119, 104, 105, 108, 101] : List UInt8)) = false := lit_eq [33] [119, 104, 105, 108, 101] _ (by decide)
      have e6 : ((toB [33]).toList == ([117, 110, 116, 105, 108] : List UInt8)) = false := lit_eq [33] [117, 110, 116, 105, 108] _ (by decide)
      have e7 : ((toB [33]).toList == ([102, 111, 114] : List UInt8)) = false := lit_eq [33] [102, 111, 114] _ (by decide)
      have e8 : ((toB [33]).toList == ([100, 111] : List UInt8)) = false := lit_eq [33] [100, 111] _ (by decide)
      have e9 : ((toB [33]).toList == ([100, 111, 110, 101] : List UInt8)) = false := lit_eq [33] [100, 111, 110, 101] _ (by decide)
      have e10 : ((toB [33]).toList == ([99, 97, 115, 101] : List UInt8)) = false := lit_eq [33] [99, 97, 115, 101] _ (by decide)
      have e11 : ((toB [33]).toList == ([101, 115, 97, 99] : List UInt8)) = false := lit_eq [33] [101, 115, 97, 99] _ (by decide)
      have e12 : ((toB [33]).toList == ([123] : List UInt8)) = false := lit_eq [33] [123] _ (by decide)
      have e13 : ((toB [33]).toList == ([125] : List UInt8)) = false := lit_eq [33] [125] _ (by decide)
      have e14 : ((toB [33]).toList == ([33] : List UInt8)) = true := lit_eq [33] [33] _ (by decide)
      go_enter Tryz.func16, Tryz.ntmps16
      go_wp2_with fail
      go_ret
      exact ⟨rfl, rfl⟩
  · have hc : reservedQ.contains s = false := by simpa using hm
    rw [hc]
    simp only [reservedQ, List.mem_cons, List.not_mem_nil, or_false, not_or] at hm
    obtain ⟨h0, h1, h2, h3, h4, h5, h6, h7, h8, h9, h10, h11, h12, h13, h14⟩ := hm
    have e0 : ((toB s).toList == ([105, 102] : List UInt8)) = false := lit_eq s [105, 102] _ (decide_eq_false h0)
    have e1 : ((toB s).toList == ([116, 104, 101, 110] : List UInt8)) = false := lit_eq s [116, 104, 101, 110] _ (decide_eq_false h1)
    have e2 : ((toB s).toList == ([101, 108, 105, 102] : List UInt8)) = false := lit_eq s [101, 108, 105, 102] _ (decide_eq_false h2)
    have e3 : ((toB s).toList == ([101, 108, 115, 101] : List UInt8)) = false := lit_eq s [101, 108, 115, 101] _ (decide_eq_false h3)
    have e4 : ((toB s).toList == ([102, 105] : List UInt8)) = false := lit_eq s [102, 105] _ (decide_eq_false h4)
    have e5 : ((toB s).toList == ([119, 104, 105, 108, 101] : List UInt8)) = false := lit_eq s [119, 104, 105, 108, 101] _ (decide_eq_false h5)
    have e6 : ((toB s).toList == ([117, 110, 116, 105, 108] : List UInt8)) = false := lit_eq s [117, 110, 116, 105, 108] _ (decide_eq_false h6)
    have e7 : ((toB s).toList == ([102, 111, 114] : List UInt8)) = false := lit_eq s [102, 111, 114] _ (decide_eq_false h7)
    have e8 : ((toB s).toList == ([100, 111] : List UInt8)) = false := lit_eq s [100, 111] _ (decide_eq_false h8)
    have e9 : ((toB s).toList == ([100, 111, 110, 101] : List UInt8)) = false := lit_eq s [100, 111, 110, 101] _ (decide_eq_false h9)
    have e10 : ((toB s).toList == ([99, 97, 115, 101] : List UInt8)) = false := lit_eq s [99, 97, 115, 101] _ (decide_eq_false h10)
    have e11 : ((toB s).toList == ([101, 115, 97, 99] : List UInt8)) = false := lit_eq s [101, 115, 97, 99] _ (decide_eq_false h11)
    have e12 : ((toB s).toList == ([123] : List UInt8)) = false := lit_eq s [123] _ (decide_eq_false h12)
    have e13 : ((toB s).toList == ([125] : List UInt8)) = false := lit_eq s [125] _ (decide_eq_false h13)
    have e14 : ((toB s).toList == ([33] : List UInt8)) = false := lit_eq s [33] _ (decide_eq_false h14)
    clear h0 h1 h2 h3 h4 h5 h6 h7 h8 h9 h10 h11 h12 h13 h14 hc
    go_enter Tryz.func16, Tryz.ntmps16
    go_wp2_with fail
    go_ret
    exact ⟨rfl, rfl⟩
end Go.Proofs.YtonejkomggpbbabGreatDoor
