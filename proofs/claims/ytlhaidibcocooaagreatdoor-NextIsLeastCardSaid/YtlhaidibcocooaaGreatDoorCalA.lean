/- Civil dates, the program: text.Civil, text.Day. -/
import Derived.Test.YtlhaidibcocooaaGreatDoorBase
import Derived.Test.YtlhaidibcocooaaGreatDoorCalLaw
import Derived.Test.YtlhaidibcocooaaGreatDoorTimesA
namespace Go.Proofs.YtlhaidibcocooaaGreatDoor
open Go.RowKit

set_option maxHeartbeats 800000 in
theorem leap_any (y : Int) (w : World) (h1 : 0 ≤ y) (h2 : y ≤ 10000) : Calls Tryz.prog 174 #[.int .i64 y] w fun e w' => e = .returned (.bool (lpB y)) ∧ w = w' := by
  obtain ⟨b, hb⟩ : ∃ b, lpB y = b := ⟨_, rfl⟩
  rw [hb]
  have hi := lpB_iff y
  rw [hb] at hi
  by_cases a4 : y % 4 = 0
  · have t4 : (y % 4 == 0) = true := by simp [a4]
    by_cases a100 : y % 100 = 0
    · have t100 : (y % 100 == 0) = true := by simp [a100]
      have n100 : (y % 100 != 0) = false := by simp [a100]
      by_cases a400 : y % 400 = 0
      · have t400 : (y % 400 == 0) = true := by simp [a400]
        have hbt : b = true := hi.2 ⟨a4, .inr a400⟩
        clear hi a4 a100 a400 hb
        subst hbt
        go_enter Tryz.func174, Tryz.ntmps174
        go_wp2
        go_ret
        exact ⟨rfl, rfl⟩
      · have t400 : (y % 400 == 0) = false := by simp [a400]
        have hbt : b = false := by
          cases b
          · rfl
          · have := hi.1 rfl; omega
        clear hi a4 a100 a400 hb
        subst hbt
        go_enter Tryz.func174, Tryz.ntmps174
        go_wp2
        go_ret
        exact ⟨rfl, rfl⟩
    · have t100 : (y % 100 == 0) = false := by simp [a100]
      have n100 : (y % 100 != 0) = true := by simp [a100]
      have hbt : b = true := hi.2 ⟨a4, .inl a100⟩
      clear hi a4 a100 hb
      subst hbt
      go_enter Tryz.func174, Tryz.ntmps174
      go_wp2
      go_ret
      exact ⟨rfl, rfl⟩
  · have t4 : (y % 4 == 0) = false := by simp [a4]
    have hbt : b = false := by
      cases b
      · rfl
      · have := hi.1 rfl; omega
    clear hi a4 hb
    subst hbt
    go_enter Tryz.func174, Tryz.ntmps174
    go_wp2
    go_ret
    exact ⟨rfl, rfl⟩

set_option maxHeartbeats 800000 in
theorem years_any (y : Int) (w : World) (h1 : 1 ≤ y) (h2 : y ≤ 10000) : Calls Tryz.prog 149 #[.int .i64 y] w fun e w' => e = .returned (.int .i64 (ybN y)) ∧ w = w' := by
  have HY := Lib.hid (show ybN y = 365 * (y - 1) + (y - 1) / 4 - (y - 1) / 100 + (y - 1) / 400 from rfl)
  go_enter Tryz.func149, Tryz.ntmps149
  go_wp2
  go_ret
  exact ⟨ret_int (by rw [HY.out]), rfl⟩

def lensA : Array Value := #[.int .i64 31, .int .i64 28, .int .i64 31, .int .i64 30, .int .i64 31, .int .i64 30, .int .i64 31, .int .i64 31, .int .i64 30, .int .i64 31, .int .i64 30, .int .i64 31]
theorem lens_at (k : Nat) (hk : k < 12) : lensA[k]? = some (.int .i64 (lensN.getD k 0 : Nat)) := by
  unfold lensA lensN
  match k, hk with
  | 0, _ | 1, _ | 2, _ | 3, _ | 4, _ | 5, _ | 6, _ | 7, _ | 8, _ | 9, _ | 10, _ | 11, _ => rfl
theorem ml_plain (lp : Bool) (k : Nat) (h : ¬(k = 1 ∧ lp = true)) : mlN lp (k + 1) = lensN.getD k 0 := by
  unfold mlN
  rw [if_neg (fun h2 => h ⟨by omega, h2.2⟩)]
  rfl
set_option maxRecDepth 100000 in
set_option maxHeartbeats 800000 in
theorem month_any (y : Int) (k : Nat) (w : World) (h1 : 0 ≤ y) (h2 : y ≤ 10000) (hk : k < 12) : Calls Tryz.prog 148 #[.int .i64 y, .int .i64 ((k : Int) + 1)] w fun e w' => e = .returned (.int .i64 (mlN (lpB y) (k + 1) : Nat)) ∧ Below w.heap.size w w' := by
  have c0 := (box_cell w lensA 216 k).trans (lens_at k hk)
  have HB := Lib.hid ((Below.refl w.heap.size w).alloc (Nat.le_refl _) (.cells lensA 216))
  have HL := Lib.hid (fun W => leap_any y W h1 h2)
  have HM := Lib.hid (ml_plain (lpB y) k)
  have H29 := Lib.hid (show k = 1 → lpB y = true → mlN (lpB y) (k + 1) = 29 from fun e1 e2 => by unfold mlN; rw [if_pos ⟨by omega, e2⟩])
  unfold lensA at *
  generalize lensN.getD k 0 = ln at *
  obtain ⟨lp, hlp⟩ : ∃ lp, lpB y = lp := ⟨_, rfl⟩
  rw [hlp] at HL HM H29
  rw [hlp]
  clear hlp
  by_cases hk1 : k = 1
  · have t2 : ((k : Int) + 1 == 2) = true := by rw [beq_iff_eq]; omega
    cases lp with
    | true =>
      have hml := H29.out hk1 rfl
      rw [hml]
      clear hml H29 HM hk1
      go_enter Tryz.func148, Tryz.ntmps148
      go_wp2_with (go_at_call 174; refine (HL.out _).mono ?_; rintro e w' ⟨rfl, rfl⟩)
      go_ret
      exact ⟨rfl, HB.out⟩
    | false =>
      have hml := HM.out (by simp)
      rw [hml]
      clear hml H29 HM hk1
      go_enter Tryz.func148, Tryz.ntmps148
      go_wp2_with (go_at_call 174; refine (HL.out _).mono ?_; rintro e w' ⟨rfl, rfl⟩)
      go_ret
      exact ⟨rfl, HB.out⟩
  · have t2 : ((k : Int) + 1 == 2) = false := by rw [beq_eq_false_iff_ne]; omega
    have hml := HM.out (fun h => hk1 h.1)
    rw [hml]
    clear hml H29 HM hk1
    go_enter Tryz.func148, Tryz.ntmps148
    go_wp2_with fail
    go_ret
    exact ⟨rfl, HB.out⟩

end Go.Proofs.YtlhaidibcocooaaGreatDoor
