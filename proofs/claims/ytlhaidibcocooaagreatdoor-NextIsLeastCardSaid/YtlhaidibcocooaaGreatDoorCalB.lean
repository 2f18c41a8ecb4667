/- Civil dates, the program: text.Day, text.Civil. -/
import Derived.Test.YtlhaidibcocooaaGreatDoorCalA
namespace Go.Proofs.YtlhaidibcocooaaGreatDoor
open Go.RowKit

def sumM (lp : Bool) : Nat → Nat
  | 0 => 0
  | k + 1 => sumM lp k + mlN lp (k + 1)
theorem sumM_le (lp : Bool) (k : Nat) : sumM lp k ≤ 31 * k := by
  induction k with
  | zero => exact Nat.le_refl _
  | succ k ih =>
    have := ml_le lp (k + 1)
    rw [sumM]
    omega
theorem yb_range {y : Int} (h1 : 1 ≤ y) (h2 : y ≤ 10000) : 0 ≤ ybN y ∧ ybN y ≤ 4000000 := by unfold ybN; omega
set_option maxRecDepth 100000 in
set_option maxHeartbeats 1600000 in
theorem dayNum_any (y : Int) (k : Nat) (d : Int) (w : World) (h1 : 1 ≤ y) (h2 : y ≤ 10000) (hk : k < 12) (hd : 0 ≤ d) (hd2 : d ≤ 400) :
    Calls Tryz.prog 107 #[.int .i64 y, .int .i64 ((k : Int) + 1), .int .i64 d] w fun e w' => e = .returned (.int .i64 (dnN y + d - 1 + (sumM (lpB y) k : Nat))) ∧ Below w.heap.size w w' := by
  have HY := Lib.hid (fun W => years_any y W h1 h2)
  have HY7 : Hid (∀ W, Calls Tryz.prog 149 #[.int .i64 1970] W fun e w' => e = .returned (.int .i64 719162) ∧ W = w') := Lib.hid (fun W => by
    have := years_any 1970 W (by decide) (by decide)
    rw [yb_1970] at this
    exact this)
  have HM := Lib.hid (fun j W hj => month_any y j W (by omega) h2 hj)
  have hyb := yb_range h1 h2
  have HD := Lib.hid (show dnN y = ybN y - 719162 from rfl)
  have HSL := Lib.hid (fun j => sumM_le (lpB y) j)
  have HML := Lib.hid (fun j => ml_le (lpB y) j)
  have HSS := Lib.hid (show ∀ j, sumM (lpB y) (j + 1) = sumM (lpB y) j + mlN (lpB y) (j + 1) from fun _ => rfl)
  have HS0 := Lib.hid (show sumM (lpB y) 0 = 0 from rfl)
  generalize dnN y = dn at *
  generalize ybN y = yb at *
  obtain ⟨lp, hlp⟩ : ∃ lp, lpB y = lp := ⟨_, rfl⟩
  rw [hlp] at HM HSL HML HSS HS0
  rw [hlp]
  clear hlp
  go_enter Tryz.func107, Tryz.ntmps107
  go_wp2_with fail
  refine (HY.out _).mono ?_
  rintro e w2 ⟨rfl, rfl⟩
  go_wp2_with fail
  refine (HY7.out _).mono ?_
  rintro e w2 ⟨rfl, rfl⟩
  go_wp2_with fail
  go_loopw [7, 8] (fun s7 s8 wr => ∃ j : Nat, j ≤ k ∧ s8 = .int .i64 ((j : Int) + 1) ∧ s7 = .int .i64 (yb - 719162 + d - 1 + (sumM lp j : Nat)) ∧ Hid (Below w.heap.size w wr)) (fun _ s8 _ => k + 1 - (intOf s8).toNat)
  case atStart => exact ⟨0, Nat.zero_le _, rfl, by rw [HS0.out]; simp, Below.refl _ _⟩
  case round =>
    obtain ⟨j, hj, rfl, rfl, HB⟩ := hrel
    have hsl := HSL.out j
    by_cases hlt : j < k
    · have hml := HML.out (j + 1)
      have HMj := Lib.hid (fun W => HM.out j W (by omega))
      have hltI : ((j : Int) + 1 < (k : Int) + 1) := by omega
      go_wp2_with fail
      refine (HMj.out _).mono ?_
      rintro e w3 ⟨rfl, hb3⟩
      have HB3 := Lib.hid (HB.out.trans (hb3.mono HB.out.size))
      clear hb3
      go_wp2_with fail
      go_roundw
      case rel => exact ⟨j + 1, by omega, by go_num, by rw [HSS.out j]; go_num, HB3⟩
      case measure => simp [intOf]; omega
    · have hjk : j = k := by omega
      subst hjk
      go_wp2_with fail
      go_ret
      exact ⟨ret_int (by rw [HD.out]), HB.out⟩

theorem day1_any (y : Int) (w : World) (h1 : 1 ≤ y) (h2 : y ≤ 10000) : Calls Tryz.prog 107 #[.int .i64 y, .int .i64 1, .int .i64 1] w fun e w' => e = .returned (.int .i64 (dnN y)) ∧ Below w.heap.size w w' := by
  refine (dayNum_any y 0 1 w h1 h2 (by decide) (by decide) (by decide)).mono ?_
  rintro e w' ⟨rfl, hb⟩
  exact ⟨ret_int (by show dnN y + 1 - 1 + ((0 : Nat) : Int) = dnN y; omega), hb⟩
theorem dayLast_any (w : World) : Calls Tryz.prog 107 #[.int .i64 9999, .int .i64 12, .int .i64 31] w fun e w' => e = .returned (.int .i64 2932896) ∧ Below w.heap.size w w' := by
  refine (dayNum_any 9999 11 31 w (by decide) (by decide) (by decide) (by decide) (by decide)).mono ?_
  rintro e w' ⟨rfl, hb⟩
  exact ⟨ret_int (by decide), hb⟩
set_option maxHeartbeats 800000 in
theorem twithin_yes (n low high : Int) (w : World) (h1 : low ≤ n) (h2 : n ≤ high) : Calls Tryz.prog 140 #[.int .i64 n, .int .i64 low, .int .i64 high] w fun e w' => e = .returned (.bool true) ∧ w = w' := by
  go_enter Tryz.func140, Tryz.ntmps140
  go_wp2
  go_ret
  exact ⟨rfl, rfl⟩
set_option maxHeartbeats 800000 in
theorem firstDay_any (w : World) : Calls Tryz.prog 141 #[] w fun e w' => e = .returned (.int .i64 (-719162)) ∧ Below w.heap.size w w' := by
  go_enter Tryz.func141, Tryz.ntmps141
  go_wp2_with fail
  refine (day1_any 1 _ (by decide) (by decide)).mono ?_
  rintro e w2 ⟨rfl, hb⟩
  have HB := Lib.hid hb
  clear hb
  go_wp2_with fail
  go_ret
  exact ⟨ret_int (by decide), HB.out⟩
set_option maxHeartbeats 800000 in
theorem lastDay_any (w : World) : Calls Tryz.prog 142 #[] w fun e w' => e = .returned (.int .i64 2932896) ∧ Below w.heap.size w w' := by
  go_enter Tryz.func142, Tryz.ntmps142
  go_wp2_with fail
  refine (dayLast_any _).mono ?_
  rintro e w2 ⟨rfl, hb⟩
  have HB := Lib.hid hb
  clear hb
  go_wp2_with fail
  go_ret
  exact ⟨rfl, HB.out⟩
set_option maxHeartbeats 800000 in
theorem isDay_jan (y : Int) (w : World) (h1 : 1 ≤ y) (h2 : y ≤ 9999) : Calls Tryz.prog 106 #[.int .i64 y, .int .i64 1, .int .i64 1] w fun e w' => e = .returned (.bool true) ∧ Below w.heap.size w w' := by
  have HM : Hid (∀ W, Calls Tryz.prog 148 #[.int .i64 y, .int .i64 1] W fun e w' => e = .returned (.int .i64 31) ∧ Below W.heap.size W w') := Lib.hid (fun W => by
    refine (month_any y 0 W (by omega) (by omega) (by decide)).mono ?_
    rintro e w' ⟨rfl, hb⟩
    exact ⟨ret_int (by cases lpB y <;> decide), hb⟩)
  go_enter Tryz.func106, Tryz.ntmps106
  go_wp2_with fail
  refine (twithin_yes _ _ _ _ h1 h2).mono ?_
  rintro e w2 ⟨rfl, rfl⟩
  go_wp2_with fail
  refine (twithin_yes 1 1 12 _ (by decide) (by decide)).mono ?_
  rintro e w2 ⟨rfl, rfl⟩
  go_wp2_with fail
  refine (HM.out _).mono ?_
  rintro e w2 ⟨rfl, hb⟩
  have HB := Lib.hid hb
  clear hb
  go_wp2_with fail
  refine (twithin_yes 1 1 31 _ (by decide) (by decide)).mono ?_
  rintro e w3 ⟨rfl, rfl⟩
  go_wp2_with fail
  go_ret
  exact ⟨rfl, HB.out⟩
set_option maxHeartbeats 800000 in
theorem day_jan (y : Int) (w : World) (h1 : 1 ≤ y) (h2 : y ≤ 9999) : Calls Tryz.prog 78 #[.int .i64 y, .int .i64 1, .int .i64 1] w fun e w' => e = .returned (.tuple #[.int .i64 (dnN y), .int .i64 0]) ∧ Below w.heap.size w w' := by
  have HI := Lib.hid (fun W => isDay_jan y W h1 h2)
  have HD := Lib.hid (fun W => day1_any y W h1 (by omega))
  generalize dnN y = dn at *
  go_enter Tryz.func78, Tryz.ntmps78
  go_wp2_with fail
  refine (HI.out _).mono ?_
  rintro e w2 ⟨rfl, hb⟩
  have HB := Lib.hid hb
  clear hb
  go_wp2_with fail
  refine (HD.out _).mono ?_
  rintro e w3 ⟨rfl, hb⟩
  have HB3 := Lib.hid (HB.out.trans (hb.mono HB.out.size))
  clear hb
  go_wp2_with fail
  go_ret2
  exact ⟨rfl, HB3.out⟩

end Go.Proofs.YtlhaidibcocooaaGreatDoor
