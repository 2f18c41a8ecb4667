/- Civil dates, the reference: civil of a day of the years 2000 to 2099. -/
import Derived.Lib.Hide
import Derived.Test.YtlhaidibcocooaaGreatDoorBase
import Derived.Test.YtlhaidibcocooaaGreatDoorTimesA
namespace Go.Proofs.YtlhaidibcocooaaGreatDoor

def lpB (y : Int) : Bool := decide (y % 4 = 0 ∧ (y % 100 ≠ 0 ∨ y % 400 = 0))
def ylN (y : Int) : Int := if lpB y = true then 366 else 365
/-- days ahead of a year, from the year 1 on -/
def ybN (y : Int) : Int := 365 * (y - 1) + (y - 1) / 4 - (y - 1) / 100 + (y - 1) / 400
/-- the number of a year's first day since 1970 -/
def dnN (y : Int) : Int := ybN y - 719162
theorem yb_1970 : ybN 1970 = 719162 := by decide
theorem lpB_iff (y : Int) : lpB y = true ↔ y % 4 = 0 ∧ (y % 100 ≠ 0 ∨ y % 400 = 0) := by unfold lpB; simp
theorem dn_succ (y : Int) : dnN (y + 1) = dnN y + ylN y := by
  unfold dnN ybN ylN
  by_cases h : lpB y = true
  · rw [if_pos h]
    rw [lpB_iff] at h
    omega
  · rw [if_neg h]
    rw [lpB_iff] at h
    omega
theorem dn_mono {a b : Int} (h : a < b) : dnN (a + 1) ≤ dnN b := by
  unfold dnN ybN
  omega
def IsYear (d y : Int) : Prop := dnN y ≤ d ∧ d < dnN (y + 1)
theorem year_unique {d a b : Int} (ha : IsYear d a) (hb : IsYear d b) : a = b := by
  unfold IsYear at ha hb
  rcases Int.lt_trichotomy a b with h | h | h
  · have := dn_mono h; omega
  · exact h
  · have := dn_mono h; omega
theorem dn_2000 : dnN 2000 = 10957 := by decide
theorem dn_2100 : dnN 2100 = 47482 := by decide
theorem dn_le {a b : Int} (h : a ≤ b) : dnN a ≤ dnN b := by
  unfold dnN ybN
  omega
theorem year_range {d y : Int} (h : IsYear d y) (h1 : 10957 ≤ d) (h2 : d < 47482) : 2000 ≤ y ∧ y < 2100 := by
  unfold IsYear at h
  have a := dn_2000
  have b := dn_2100
  constructor
  · by_cases hy : y < 2000
    · have := dn_le (show y + 1 ≤ 2000 by omega); omega
    · omega
  · by_cases hy : y < 2100
    · exact hy
    · have := dn_le (show 2100 ≤ y by omega); omega

def lensN : List Nat := [31, 28, 31, 30, 31, 30, 31, 31, 30, 31, 30, 31]
def mlN (lp : Bool) (m : Nat) : Nat := if m = 2 ∧ lp = true then 29 else lensN.getD (m - 1) 0
/-- the days from a month on -/
def remN (lp : Bool) : Nat → Nat → Nat
  | 0, _ => 0
  | f + 1, m => mlN lp m + remN lp f (m + 1)
/-- the month and the day in it (from 0) -/
def mrec (lp : Bool) : Nat → Nat → Nat → Nat × Nat
  | 0, m, d => (m, d)
  | f + 1, m, d => if d < mlN lp m then (m, d) else mrec lp f (m + 1) (d - mlN lp m)
theorem rem_year (y : Int) : (remN (lpB y) 12 1 : Int) = ylN y := by
  unfold ylN
  cases lpB y <;> decide
theorem mrec_ok (lp : Bool) (f m d : Nat) (h : d < remN lp f m) : m ≤ (mrec lp f m d).1 ∧ (mrec lp f m d).1 < m + f ∧ (mrec lp f m d).2 < mlN lp (mrec lp f m d).1 := by
  induction f generalizing m d with
  | zero => simp [remN] at h
  | succ f ih =>
    rw [mrec]
    split
    · rename_i hd
      exact ⟨Nat.le_refl _, by omega, hd⟩
    · rename_i hd
      have := ih (m + 1) (d - mlN lp m) (by rw [remN] at h; omega)
      exact ⟨by omega, by omega, this.2.2⟩
theorem ml_le (lp : Bool) (m : Nat) : mlN lp m ≤ 31 := by
  unfold mlN
  split
  · decide
  · unfold lensN
    match m with
    | 0 | 1 | 2 | 3 | 4 | 5 | 6 | 7 | 8 | 9 | 10 | 11 | 12 => decide
    | n + 13 => simp

/-- the year of a day -/
noncomputable def yrN (d : Int) : Int := open Classical in if h : ∃ y, IsYear d y then Classical.choose h else 0
theorem yr_of {d y : Int} (h : IsYear d y) : yrN d = y := by
  unfold yrN
  rw [dif_pos ⟨y, h⟩]
  exact year_unique (Classical.choose_spec (⟨y, h⟩ : ∃ y, IsYear d y)) h
noncomputable def civN (d : Int) : Nat × Nat := mrec (lpB (yrN d)) 12 1 (d - dnN (yrN d)).toNat
theorem civ_of {d y : Int} (h : IsYear d y) : civN d = mrec (lpB y) 12 1 (d - dnN y).toNat := by
  unfold civN
  rw [yr_of h]
theorem civ_ok {d y : Int} (h : IsYear d y) : 1 ≤ (civN d).1 ∧ (civN d).1 ≤ 12 ∧ (civN d).2 < 31 := by
  rw [civ_of h]
  have hr := rem_year y
  have hs := dn_succ y
  unfold IsYear at h
  have := mrec_ok (lpB y) 12 1 (d - dnN y).toNat (by omega)
  have := ml_le (lpB y) (mrec (lpB y) 12 1 (d - dnN y).toNat).1
  omega

end Go.Proofs.YtlhaidibcocooaaGreatDoor

namespace Go.Proofs.YtlhaidibcocooaaGreatDoor
open Go.RowKit

set_option maxHeartbeats 800000 in
theorem leap_any (y : Int) (w : World) (h1 : 0 ≤ y) (h2 : y ≤ 10000) : Calls Tryz.prog 174 #[.int .i64 y] w fun e w' => e = .returned (.bool (lpB y)) ∧ w = w' := by
  obtain ⟨b, hb⟩ : ∃ b, lpB y = b := ⟨_, rfl⟩
  rw [hb]
  have hi := lpB_iff y
  rw [hb] at hi
  by_cases a4 : y % 4 = 0
  · have t4 : (y % 4 == 0) = true := by simp [a4]
    by_cases a100 : y % 100 = 0
    · have t100 : (y % 100 == 0) = true := by simp [a100]
      have n100 : (y % 100 != 0) = false := by simp [a100]
      by_cases a400 : y % 400 = 0
      · have t400 : (y % 400 == 0) = true := by simp [a400]
        have hbt : b = true := hi.2 ⟨a4, .inr a400⟩
        clear hi a4 a100 a400 hb
        subst hbt
        go_enter Tryz.func174, Tryz.ntmps174
        go_wp2
        go_ret
        exact ⟨rfl, rfl⟩
      · have t400 : (y % 400 == 0) = false := by simp [a400]
        have hbt : b = false := by
          cases b
          · rfl
          · have := hi.1 rfl; omega
        clear hi a4 a100 a400 hb
        subst hbt
        go_enter Tryz.func174, Tryz.ntmps174
        go_wp2
        go_ret
        exact ⟨rfl, rfl⟩
    · have t100 : (y % 100 == 0) = false := by simp [a100]
      have n100 : (y % 100 != 0) = true := by simp [a100]
      have hbt : b = true := hi.2 ⟨a4, .inl a100⟩
      clear hi a4 a100 hb
      subst hbt
      go_enter Tryz.func174, Tryz.ntmps174
      go_wp2
      go_ret
      exact ⟨rfl, rfl⟩
  · have t4 : (y % 4 == 0) = false := by simp [a4]
    have hbt : b = false := by
      cases b
      · rfl
      · have := hi.1 rfl; omega
    clear hi a4 hb
    subst hbt
    go_enter Tryz.func174, Tryz.ntmps174
    go_wp2
    go_ret
    exact ⟨rfl, rfl⟩

set_option maxHeartbeats 800000 in
theorem years_any (y : Int) (w : World) (h1 : 1 ≤ y) (h2 : y ≤ 10000) : Calls Tryz.prog 149 #[.int .i64 y] w fun e w' => e = .returned (.int .i64 (ybN y)) ∧ w = w' := by
  have HY := Lib.hid (show ybN y = 365 * (y - 1) + (y - 1) / 4 - (y - 1) / 100 + (y - 1) / 400 from rfl)
  go_enter Tryz.func149, Tryz.ntmps149
  go_wp2
  go_ret
  exact ⟨ret_int (by rw [HY.out]), rfl⟩

def lensA : Array Value := #[.int .i64 31, .int .i64 28, .int .i64 31, .int .i64 30, .int .i64 31, .int .i64 30, .int .i64 31, .int .i64 31, .int .i64 30, .int .i64 31, .int .i64 30, .int .i64 31]
theorem lens_at (k : Nat) (hk : k < 12) : lensA[k]? = some (.int .i64 (lensN.getD k 0 : Nat)) := by
  unfold lensA lensN
  match k, hk with
  | 0, _ | 1, _ | 2, _ | 3, _ | 4, _ | 5, _ | 6, _ | 7, _ | 8, _ | 9, _ | 10, _ | 11, _ => rfl
theorem ml_plain (lp : Bool) (k : Nat) (h : ¬(k = 1 ∧ lp = true)) : mlN lp (k + 1) = lensN.getD k 0 := by
  unfold mlN
  rw [if_neg (fun h2 => h ⟨by omega, h2.2⟩)]
  rfl
set_option maxRecDepth 100000 in
set_option maxHeartbeats 800000 in
theorem month_any (y : Int) (k : Nat) (w : World) (h1 : 0 ≤ y) (h2 : y ≤ 10000) (hk : k < 12) : Calls Tryz.prog 148 #[.int .i64 y, .int .i64 ((k : Int) + 1)] w fun e w' => e = .returned (.int .i64 (mlN (lpB y) (k + 1) : Nat)) ∧ Below w.heap.size w w' := by
  have c0 := (box_cell w lensA 216 k).trans (lens_at k hk)
  have HB := Lib.hid ((Below.refl w.heap.size w).alloc (Nat.le_refl _) (.cells lensA 216))
  have HL := Lib.hid (fun W => leap_any y W h1 h2)
  have HM := Lib.hid (ml_plain (lpB y) k)
  have H29 := Lib.hid (show k = 1 → lpB y = true → mlN (lpB y) (k + 1) = 29 from fun e1 e2 => by unfold mlN; rw [if_pos ⟨by omega, e2⟩])
  unfold lensA at *
  generalize lensN.getD k 0 = ln at *
  obtain ⟨lp, hlp⟩ : ∃ lp, lpB y = lp := ⟨_, rfl⟩
  rw [hlp] at HL HM H29
  rw [hlp]
  clear hlp
  by_cases hk1 : k = 1
  · have t2 : ((k : Int) + 1 == 2) = true := by rw [beq_iff_eq]; omega
    cases lp with
    | true =>
      have hml := H29.out hk1 rfl
      rw [hml]
      clear hml H29 HM hk1
      go_enter Tryz.func148, Tryz.ntmps148
      go_wp2_with (go_at_call 174; refine (HL.out _).mono ?_; rintro e w' ⟨rfl, rfl⟩)
      go_ret
      exact ⟨rfl, HB.out⟩
    | false =>
      have hml := HM.out (by simp)
      rw [hml]
      clear hml H29 HM hk1
      go_enter Tryz.func148, Tryz.ntmps148
      go_wp2_with (go_at_call 174; refine (HL.out _).mono ?_; rintro e w' ⟨rfl, rfl⟩)
      go_ret
      exact ⟨rfl, HB.out⟩
  · have t2 : ((k : Int) + 1 == 2) = false := by rw [beq_eq_false_iff_ne]; omega
    have hml := HM.out (fun h => hk1 h.1)
    rw [hml]
    clear hml H29 HM hk1
    go_enter Tryz.func148, Tryz.ntmps148
    go_wp2_with fail
    go_ret
    exact ⟨rfl, HB.out⟩

end Go.Proofs.YtlhaidibcocooaaGreatDoor

namespace Go.Proofs.YtlhaidibcocooaaGreatDoor
open Go.RowKit

def sumM (lp : Bool) : Nat → Nat
  | 0 => 0
  | k + 1 => sumM lp k + mlN lp (k + 1)
theorem sumM_le (lp : Bool) (k : Nat) : sumM lp k ≤ 31 * k := by
  induction k with
  | zero => exact Nat.le_refl _
  | succ k ih =>
    have := ml_le lp (k + 1)
    rw [sumM]
    omega
theorem yb_range {y : Int} (h1 : 1 ≤ y) (h2 : y ≤ 10000) : 0 ≤ ybN y ∧ ybN y ≤ 4000000 := by unfold ybN; omega
set_option maxRecDepth 100000 in
set_option maxHeartbeats 1600000 in
theorem dayNum_any (y : Int) (k : Nat) (d : Int) (w : World) (h1 : 1 ≤ y) (h2 : y ≤ 10000) (hk : k < 12) (hd : 0 ≤ d) (hd2 : d ≤ 400) :
    Calls Tryz.prog 107 #[.int .i64 y, .int .i64 ((k : Int) + 1), .int .i64 d] w fun e w' => e = .returned (.int .i64 (dnN y + d - 1 + (sumM (lpB y) k : Nat))) ∧ Below w.heap.size w w' := by
  have HY := Lib.hid (fun W => years_any y W h1 h2)
  have HY7 : Hid (∀ W, Calls Tryz.prog 149 #[.int .i64 1970] W fun e w' => e = .returned (.int .i64 719162) ∧ W = w') := Lib.hid (fun W => by
    have := years_any 1970 W (by decide) (by decide)
    rw [yb_1970] at this
    exact this)
  have HM := Lib.hid (fun j W hj => month_any y j W (by omega) h2 hj)
  have hyb := yb_range h1 h2
  have HD := Lib.hid (show dnN y = ybN y - 719162 from rfl)
  have HSL := Lib.hid (fun j => sumM_le (lpB y) j)
  have HML := Lib.hid (fun j => ml_le (lpB y) j)
  have HSS := Lib.hid (show ∀ j, sumM (lpB y) (j + 1) = sumM (lpB y) j + mlN (lpB y) (j + 1) from fun _ => rfl)
  have HS0 := Lib.hid (show sumM (lpB y) 0 = 0 from rfl)
  generalize dnN y = dn at *
  generalize ybN y = yb at *
  obtain ⟨lp, hlp⟩ : ∃ lp, lpB y = lp := ⟨_, rfl⟩
  rw [hlp] at HM HSL HML HSS HS0
  rw [hlp]
  clear hlp
  go_enter Tryz.func107, Tryz.ntmps107
  go_wp2_with fail
  refine (HY.out _).mono ?_
  rintro e w2 ⟨rfl, rfl⟩
  go_wp2_with fail
  refine (HY7.out _).mono ?_
  rintro e w2 ⟨rfl, rfl⟩
  go_wp2_with fail
  go_loopw [7, 8] (fun s7 s8 wr => ∃ j : Nat, j ≤ k ∧ s8 = .int .i64 ((j : Int) + 1) ∧ s7 = .int .i64 (yb - 719162 + d - 1 + (sumM lp j : Nat)) ∧ Hid (Below w.heap.size w wr)) (fun _ s8 _ => k + 1 - (intOf s8).toNat)
  case atStart => exact ⟨0, Nat.zero_le _, rfl, by rw [HS0.out]; simp, Below.refl _ _⟩
  case round =>
    obtain ⟨j, hj, rfl, rfl, HB⟩ := hrel
    have hsl := HSL.out j
    by_cases hlt : j < k
    · have hml := HML.out (j + 1)
      have HMj := Lib.hid (fun W => HM.out j W (by omega))
      have hltI : ((j : Int) + 1 < (k : Int) + 1) := by omega
      go_wp2_with fail
      refine (HMj.out _).mono ?_
      rintro e w3 ⟨rfl, hb3⟩
      have HB3 := Lib.hid (HB.out.trans (hb3.mono HB.out.size))
      clear hb3
      go_wp2_with fail
      go_roundw
      case rel => exact ⟨j + 1, by omega, by go_num, by rw [HSS.out j]; go_num, HB3⟩
      case measure => simp [intOf]; omega
    · have hjk : j = k := by omega
      subst hjk
      go_wp2_with fail
      go_ret
      exact ⟨ret_int (by rw [HD.out]), HB.out⟩

theorem day1_any (y : Int) (w : World) (h1 : 1 ≤ y) (h2 : y ≤ 10000) : Calls Tryz.prog 107 #[.int .i64 y, .int .i64 1, .int .i64 1] w fun e w' => e = .returned (.int .i64 (dnN y)) ∧ Below w.heap.size w w' := by
  refine (dayNum_any y 0 1 w h1 h2 (by decide) (by decide) (by decide)).mono ?_
  rintro e w' ⟨rfl, hb⟩
  exact ⟨ret_int (by show dnN y + 1 - 1 + ((0 : Nat) : Int) = dnN y; omega), hb⟩
theorem dayLast_any (w : World) : Calls Tryz.prog 107 #[.int .i64 9999, .int .i64 12, .int .i64 31] w fun e w' => e = .returned (.int .i64 2932896) ∧ Below w.heap.size w w' := by
  refine (dayNum_any 9999 11 31 w (by decide) (by decide) (by decide) (by decide) (by decide)).mono ?_
  rintro e w' ⟨rfl, hb⟩
  exact ⟨ret_int (by decide), hb⟩
set_option maxHeartbeats 800000 in
theorem twithin_yes (n low high : Int) (w : World) (h1 : low ≤ n) (h2 : n ≤ high) : Calls Tryz.prog 140 #[.int .i64 n, .int .i64 low, .int .i64 high] w fun e w' => e = .returned (.bool true) ∧ w = w' := by
  go_enter Tryz.func140, Tryz.ntmps140
  go_wp2
  go_ret
  exact ⟨rfl, rfl⟩
set_option maxHeartbeats 800000 in
theorem firstDay_any (w : World) : Calls Tryz.prog 141 #[] w fun e w' => e = .returned (.int .i64 (-719162)) ∧ Below w.heap.size w w' := by
  go_enter Tryz.func141, Tryz.ntmps141
  go_wp2_with fail
  refine (day1_any 1 _ (by decide) (by decide)).mono ?_
  rintro e w2 ⟨rfl, hb⟩
  have HB := Lib.hid hb
  clear hb
  go_wp2_with fail
  go_ret
  exact ⟨ret_int (by decide), HB.out⟩
set_option maxHeartbeats 800000 in
theorem lastDay_any (w : World) : Calls Tryz.prog 142 #[] w fun e w' => e = .returned (.int .i64 2932896) ∧ Below w.heap.size w w' := by
  go_enter Tryz.func142, Tryz.ntmps142
  go_wp2_with fail
  refine (dayLast_any _).mono ?_
  rintro e w2 ⟨rfl, hb⟩
  have HB := Lib.hid hb
  clear hb
  go_wp2_with fail
  go_ret
  exact ⟨rfl, HB.out⟩
set_option maxHeartbeats 800000 in
theorem isDay_jan (y : Int) (w : World) (h1 : 1 ≤ y) (h2 : y ≤ 9999) : Calls Tryz.prog 106 #[.int .i64 y, .int .i64 1, .int .i64 1] w fun e w' => e = .returned (.bool true) ∧ Below w.heap.size w w' := by
  have HM : Hid (∀ W, Calls Tryz.prog 148 #[.int .i64 y, .int .i64 1] W fun e w' => e = .returned (.int .i64 31) ∧ Below W.heap.size W w') := Lib.hid (fun W => by
    refine (month_any y 0 W (by omega) (by omega) (by decide)).mono ?_
    rintro e w' ⟨rfl, hb⟩
    exact ⟨ret_int (by cases lpB y <;> decide), hb⟩)
  go_enter Tryz.func106, Tryz.ntmps106
  go_wp2_with fail
  refine (twithin_yes _ _ _ _ h1 h2).mono ?_
  rintro e w2 ⟨rfl, rfl⟩
  go_wp2_with fail
  refine (twithin_yes 1 1 12 _ (by decide) (by decide)).mono ?_
  rintro e w2 ⟨rfl, rfl⟩
  go_wp2_with fail
  refine (HM.out _).mono ?_
  rintro e w2 ⟨rfl, hb⟩
  have HB := Lib.hid hb
  clear hb
  go_wp2_with fail
  refine (twithin_yes 1 1 31 _ (by decide) (by decide)).mono ?_
  rintro e w3 ⟨rfl, rfl⟩
  go_wp2_with fail
  go_ret
  exact ⟨rfl, HB.out⟩
set_option maxHeartbeats 800000 in
theorem day_jan (y : Int) (w : World) (h1 : 1 ≤ y) (h2 : y ≤ 9999) : Calls Tryz.prog 78 #[.int .i64 y, .int .i64 1, .int .i64 1] w fun e w' => e = .returned (.tuple #[.int .i64 (dnN y), .int .i64 0]) ∧ Below w.heap.size w w' := by
  have HI := Lib.hid (fun W => isDay_jan y W h1 h2)
  have HD := Lib.hid (fun W => day1_any y W h1 (by omega))
  generalize dnN y = dn at *
  go_enter Tryz.func78, Tryz.ntmps78
  go_wp2_with fail
  refine (HI.out _).mono ?_
  rintro e w2 ⟨rfl, hb⟩
  have HB := Lib.hid hb
  clear hb
  go_wp2_with fail
  refine (HD.out _).mono ?_
  rintro e w3 ⟨rfl, hb⟩
  have HB3 := Lib.hid (HB.out.trans (hb.mono HB.out.size))
  clear hb
  go_wp2_with fail
  go_ret2
  exact ⟨rfl, HB3.out⟩

end Go.Proofs.YtlhaidibcocooaaGreatDoor

namespace Go.Proofs.YtlhaidibcocooaaGreatDoor
open Go.RowKit

theorem start_year (d : Int) (h1 : 10957 ≤ d) (h2 : d < 47482) : 1 ≤ 1970 + d / 366 - 1 ∧ 1970 + d / 366 - 1 < 2100 ∧ dnN (1970 + d / 366 - 1) ≤ d := by
  unfold dnN ybN
  omega
/-- what telling a day's date gives -/
def CivGives (d : Int) (w : World) (e : Ending) (w' : World) : Prop := ∃ y : Int, e = .returned (.tuple #[.int .i64 y, .int .i64 ((civN d).1 : Int), .int .i64 ((civN d).2 + 1 : Int)]) ∧ Below w.heap.size w w'
set_option maxRecDepth 100000 in
set_option maxHeartbeats 3200000 in
theorem civil_any (d : Int) (w : World) (h1 : 10957 ≤ d) (h2 : d < 47482) : Calls Tryz.prog 143 #[.int .i64 d] w (CivGives d w) := by
  obtain ⟨Q, hQ⟩ : ∃ Q, CivGives d w = Q := ⟨_, rfl⟩
  rw [hQ]
  have HQ := Lib.hid hQ
  clear hQ
  obtain ⟨s1, s2, s3⟩ := start_year d h1 h2
  have HS3 := Lib.hid s3
  have hq0 : 0 ≤ d / 366 := by omega
  clear s3
  go_enter Tryz.func143, Tryz.ntmps143
  go_wp2_with fail
  go_loopw [2] (fun s2 wr => ∃ y : Int, s2 = .int .i64 y ∧ 1 ≤ y ∧ y < 2100 ∧ Hid (dnN y ≤ d) ∧ Hid (Below w.heap.size w wr)) (fun s2 _ => (2100 - intOf s2).toNat)
  case atStart => exact ⟨_, rfl, by omega, by omega, HS3.out, Below.refl _ _⟩
  case round =>
    obtain ⟨y, rfl, hy1, hy2, HD, HB⟩ := hrel
    clear hq0 s1 s2
    have HDN := Lib.hid (fun W => day1_any (y + 1) W (by omega) (by omega))
    have HDY := Lib.hid (fun W => day1_any y W (by omega) (by omega))
    obtain ⟨dn1, hdn1⟩ : ∃ dn1, dnN (y + 1) = dn1 := ⟨_, rfl⟩
    rw [hdn1] at HDN
    by_cases hc : dn1 ≤ d
    · have hy3 : y + 1 < 2100 := by
        by_cases h : y + 1 < 2100
        · exact h
        · have a := dn_le (show 2100 ≤ y + 1 by omega)
          have b := dn_2100
          omega
      have HD1 := Lib.hid (show dnN (y + 1) ≤ d by omega)
      clear hdn1
      go_wp2_with fail
      refine (HDN.out _).mono ?_
      rintro e w3 ⟨rfl, hb3⟩
      have HB3 := Lib.hid (HB.out.trans (hb3.mono HB.out.size))
      clear hb3
      go_wp2_with fail
      go_roundw
      case rel => exact ⟨y + 1, rfl, by omega, by omega, HD1, HB3⟩
      case measure => simp [intOf]; omega
    · have hyr : IsYear d y := ⟨HD.out, by omega⟩
      have hciv := civ_of hyr
      have hrem := rem_year y
      have hsuc := dn_succ y
      have hr0 : (d - dnN y).toNat < remN (lpB y) 12 1 := by have := HD.out; unfold IsYear at hyr; omega
      have HR0 := Lib.hid hr0
      have HCV := Lib.hid hciv.symm
      have HM := Lib.hid (fun k W hk => month_any y k W (by omega) (by omega) hk)
      have hdy0 : 0 ≤ d - dnN y := by have := HD.out; omega
      have hdy1 : d - dnN y < 400 := by unfold IsYear at hyr; unfold ylN at hsuc; split at hsuc <;> omega
      obtain ⟨r0, hr00⟩ : ∃ r0, (d - dnN y).toNat = r0 := ⟨_, rfl⟩
      rw [hr00] at HR0 HCV
      have hrr : d - dnN y = (r0 : Int) := by omega
      have hr04 : r0 < 400 := by omega
      obtain ⟨dy, hdy⟩ : ∃ dy, dnN y = dy := ⟨_, rfl⟩
      rw [hdy] at HDY hrr
      have HRR := Lib.hid hrr
      obtain ⟨lp, hlp⟩ : ∃ lp, lpB y = lp := ⟨_, rfl⟩
      rw [hlp] at HR0 HCV HM
      have hdy2 : -1000000 ≤ dy ∧ dy ≤ 1000000 := by omega
      clear hr0 hciv hrem hsuc hdy0 hdy1 hr00 hrr hyr hdn1 hlp hdy
      go_wp2_with fail
      refine (HDN.out _).mono ?_
      rintro e w3 ⟨rfl, hb3⟩
      have HB3 := Lib.hid (HB.out.trans (hb3.mono HB.out.size))
      clear hb3
      go_wp2_with fail
      refine (HDY.out _).mono ?_
      rintro e w4 ⟨rfl, hb4⟩
      have HB4 := Lib.hid (HB3.out.trans (hb4.mono HB3.out.size))
      clear hb4
      go_wp2_with fail
      go_loopw [5, 3] (fun s5 s3 wx => ∃ (k r : Nat), s3 = .int .i64 ((k : Int) + 1) ∧ s5 = .int .i64 (r : Int) ∧ k < 12 ∧ r < 400 ∧ Hid (r < remN lp (12 - k) (k + 1)) ∧ Hid (mrec lp (12 - k) (k + 1) r = civN d) ∧ Hid (Below w.heap.size w wx)) (fun _ s3 _ => 13 - (intOf s3).toNat)
      case atStart => exact ⟨0, r0, rfl, by rw [HRR.out], by decide, hr04, HR0, HCV, HB4⟩
      case round =>
        obtain ⟨k, r, rfl, rfl, hk, hr4, HR, HC, HB5⟩ := hrel
        obtain ⟨f, hf⟩ : ∃ f, 12 - k = f + 1 := ⟨11 - k, by omega⟩
        have hR := HR.out
        have hC := HC.out
        rw [hf, remN] at hR
        rw [hf, mrec] at hC
        have hml := ml_le lp (k + 1)
        have HMk := Lib.hid (fun W => HM.out k W hk)
        obtain ⟨ml, hmle⟩ : ∃ ml, mlN lp (k + 1) = ml := ⟨_, rfl⟩
        rw [hmle] at hR hC hml HMk
        clear hmle HR HC
        by_cases hr : r < ml
        · rw [if_pos hr] at hC
          have hge : ((ml : Int) ≤ (r : Int)) = False := by simp; omega
          have HC1 := Lib.hid (show (civN d).1 = k + 1 ∧ (civN d).2 = r by rw [← hC]; exact ⟨rfl, rfl⟩)
          clear hC hR hf
          go_wp2_with fail
          refine (HMk.out _).mono ?_
          rintro e w6 ⟨rfl, hb6⟩
          have HB6 := Lib.hid (HB5.out.trans (hb6.mono HB5.out.size))
          clear hb6
          go_wp2_with fail
          rw [← HQ.out]
          go_ret3
          exact ⟨y, by rw [HC1.out.1, HC1.out.2]; rfl, HB6.out⟩
        · rw [if_neg hr] at hC
          have hk1 : k + 1 < 12 := by
            by_cases h : f = 0
            · subst h
              rw [remN] at hR
              omega
            · omega
          have e12 : 12 - (k + 1) = f := by omega
          have HR1 := Lib.hid (show r - ml < remN lp (12 - (k + 1)) (k + 1 + 1) by rw [e12]; omega)
          have HC1 := Lib.hid (show mrec lp (12 - (k + 1)) (k + 1 + 1) (r - ml) = civN d by rw [e12]; exact hC)
          have hsub : (r : Int) - (ml : Int) = ((r - ml : Nat) : Int) := by omega
          have HSB := Lib.hid hsub
          have hr2 : r - ml < 400 := by omega
          clear hC hR hf e12 hsub
          go_wp2_with fail
          refine (HMk.out _).mono ?_
          rintro e w6 ⟨rfl, hb6⟩
          have HB6 := Lib.hid (HB5.out.trans (hb6.mono HB5.out.size))
          clear hb6
          go_wp2_with fail
          refine (HMk.out _).mono ?_
          rintro e w7 ⟨rfl, hb7⟩
          have HB7 := Lib.hid (HB6.out.trans (hb7.mono HB6.out.size))
          clear hb7
          go_wp2_with fail
          go_roundw
          case rel => exact ⟨k + 1, r - ml, by go_num, by rw [HSB.out], hk1, hr2, HR1, HC1, HB7⟩
          case measure => simp [intOf]; omega
set_option maxHeartbeats 1600000 in
theorem Civil_any (d : Int) (w : World) (h1 : 10957 ≤ d) (h2 : d < 47482) : Calls Tryz.prog 102 #[.int .i64 d] w fun e w' => ∃ y : Int, e = .returned (.tuple #[.int .i64 y, .int .i64 ((civN d).1 : Int), .int .i64 ((civN d).2 + 1 : Int), .int .i64 0]) ∧ Below w.heap.size w w' := by
  have HC := Lib.hid (fun W => civil_any d W h1 h2)
  go_enter Tryz.func102, Tryz.ntmps102
  go_wp2_with fail
  refine (firstDay_any _).mono ?_
  rintro e w2 ⟨rfl, hb2⟩
  have HB2 := Lib.hid hb2
  clear hb2
  go_wp2_with fail
  refine (lastDay_any _).mono ?_
  rintro e w3 ⟨rfl, hb3⟩
  have HB3 := Lib.hid (HB2.out.trans (hb3.mono HB2.out.size))
  clear hb3
  go_wp2_with fail
  refine (twithin_yes d (-719162) 2932896 _ (by omega) (by omega)).mono ?_
  rintro e w4 ⟨rfl, rfl⟩
  go_wp2_with fail
  refine (HC.out _).mono ?_
  rintro e w5 ⟨y, rfl, hb5⟩
  have HB5 := Lib.hid (HB3.out.trans (hb5.mono HB3.out.size))
  clear hb5
  go_wp2_with fail
  refine bodyPost_ret (v := .tuple #[.int .i64 y, .int .i64 ((civN d).1 : Int), .int .i64 ((civN d).2 + 1 : Int), .int .i64 0]) (by simp [results, Tryz.results102, go_sem]) rfl ⟨y, rfl, HB5.out⟩

end Go.Proofs.YtlhaidibcocooaaGreatDoor

namespace Go.Proofs.YtlhaidibcocooaaGreatDoor
open Go.RowKit

/-- what telling a day's date gives, by the reference -/
def RCivGives (d : Int) (w : World) (e : Ending) (w' : World) : Prop := e = .returned (.tuple #[.int .i64 ((civN d).1 : Int), .int .i64 ((civN d).2 + 1 : Int), .int .i64 ((d + 4) % 7)]) ∧ Below w.heap.size w w'
theorem yl_range (y : Int) : 365 ≤ ylN y ∧ ylN y ≤ 366 := by unfold ylN; split <;> omega
/-- the guards of a leap year -/
theorem leap_guards (y : Int) : (lpB y = true ∧ (y % 4 == 0) = true ∧ (((y % 100 == 0) = false ∧ (y % 100 != 0) = true) ∨ ((y % 100 == 0) = true ∧ (y % 100 != 0) = false ∧ (y % 400 == 0) = true))) ∨
    (lpB y = false ∧ (((y % 4 == 0) = false ∧ (y % 400 == 0) = false) ∨ ((y % 4 == 0) = true ∧ (y % 100 == 0) = true ∧ (y % 100 != 0) = false ∧ (y % 400 == 0) = false))) := by
  have h := lpB_iff y
  by_cases a4 : y % 4 = 0
  · by_cases a100 : y % 100 = 0
    · by_cases a400 : y % 400 = 0
      · exact .inl ⟨h.2 ⟨a4, .inr a400⟩, by simp [a4], .inr ⟨by simp [a100], by simp [a100], by simp [a400]⟩⟩
      · refine .inr ⟨?_, .inr ⟨by simp [a4], by simp [a100], by simp [a100], by simp [a400]⟩⟩
        cases hb : lpB y
        · rfl
        · have := h.1 hb; omega
    · exact .inl ⟨h.2 ⟨a4, .inl a100⟩, by simp [a4], .inl ⟨by simp [a100], by simp [a100]⟩⟩
  · refine .inr ⟨?_, .inl ⟨by simp [a4], by simp; omega⟩⟩
    cases hb : lpB y
    · rfl
    · have := h.1 hb; omega

set_option maxRecDepth 100000 in
set_option maxHeartbeats 6400000 in
theorem rcivil_any (d : Int) (w : World) (h1 : 10957 ≤ d) (h2 : d < 47482) : Calls Tryz.prog 72 #[.int .i64 d] w (RCivGives d w) := by
  obtain ⟨Q, hQ⟩ : ∃ Q, RCivGives d w = Q := ⟨_, rfl⟩
  rw [hQ]
  have HQ := Lib.hid hQ
  clear hQ
  have hd70 : dnN 1970 = 0 := by decide
  go_enter Tryz.func72, Tryz.ntmps72
  go_wp2_with fail
  go_loopw [0, 5] (fun s0 s5 wr => ∃ y r : Int, s5 = .int .i64 y ∧ s0 = .int .i64 r ∧ 1970 ≤ y ∧ y < 2100 ∧ 0 ≤ r ∧ r < 50000 ∧ Hid (dnN y + r = d) ∧ wr = w) (fun _ s5 _ => (2100 - intOf s5).toNat)
  case atStart => exact ⟨1970, d, rfl, rfl, by decide, by decide, by omega, by omega, (show dnN 1970 + d = d by omega), rfl⟩
  case round =>
    obtain ⟨y, r, rfl, rfl, hy1, hy2, hr0, hr5, HD, rfl⟩ := hrel
    clear hd70
    go_upto_region 4 with fail
    go_cut [25] (fun s25 wx => s25 = .bool (lpB y) ∧ wx = wr)
    case first =>
      rcases leap_guards y with ⟨e0, e1, ⟨e2, e3⟩ | ⟨e2, e3, e4⟩⟩ | ⟨e0, ⟨e1, e2⟩ | ⟨e1, e2, e3, e4⟩⟩
      all_goals
        have E0 := Lib.hid e0
        clear e0
        go_wp2_with fail
        go_meet
        exact ⟨by rw [E0.out], rfl⟩
    case rest =>
      obtain ⟨rfl, rfl⟩ := hcut
      obtain ⟨lp, hlp⟩ : ∃ lp, lpB y = lp := ⟨_, rfl⟩
      have hyl : ylN y = if lp = true then 366 else 365 := by unfold ylN; rw [hlp]
      have HYL := Lib.hid hyl
      have HLP := Lib.hid hlp
      rw [hlp]
      clear hyl hlp
      go_upto_if 25 with fail
      go_cut [6] (fun s6 wx => s6 = .int .i64 (ylN y) ∧ wx = wc)
      case first =>
        cases lp with
        | true =>
          go_wp2_with fail
          go_meet
          exact ⟨by rw [HYL.out]; rfl, rfl⟩
        | false =>
          go_wp2_with fail
          go_meet
          exact ⟨by rw [HYL.out]; rfl, rfl⟩
      case rest =>
        obtain ⟨rfl, rfl⟩ := hcut
        have hyr := yl_range y
        have hsuc := dn_succ y
        have HSUC := Lib.hid hsuc
        obtain ⟨yl, hyl⟩ : ∃ yl, ylN y = yl := ⟨_, rfl⟩
        rw [hyl] at hyr hsuc
        rw [hyl]
        have HYY := Lib.hid hyl
        clear hyl HYL
        by_cases hlt : r < yl
        · have hD := HD.out
          have hyrd : IsYear d y := ⟨by omega, by omega⟩
          have hciv := civ_of hyrd
          have hrem := rem_year y
          rw [HLP.out] at hciv hrem
          obtain ⟨r0, hr00⟩ : ∃ r0 : Nat, r = (r0 : Int) := ⟨r.toNat, by omega⟩
          have HR0 := Lib.hid (show r0 < remN lp 12 1 by rw [HYY.out] at hrem; omega)
          have HCV := Lib.hid (show mrec lp 12 1 r0 = civN d by rw [hciv]; congr 1; omega)
          have hr04 : r0 < 400 := by omega
          subst hr00
          clear hD hyrd hciv hrem hsuc
          go_upto_region 9 with fail
          go_cut [7] (fun s7 wx => s7 = .bool (lpB y) ∧ wx = wc)
          case first =>
            rcases leap_guards y with ⟨e0, e1, ⟨e2, e3⟩ | ⟨e2, e3, e4⟩⟩ | ⟨e0, ⟨e1, e2⟩ | ⟨e1, e2, e3, e4⟩⟩
            all_goals
              have E0 := Lib.hid e0
              clear e0
              go_wp2_with fail
              go_meet
              exact ⟨by rw [E0.out], rfl⟩
          case rest =>
            obtain ⟨rfl, rfl⟩ := hcut
            rw [HLP.out]
            go_wp2_with fail
            go_loopw [0, 4, 8] (fun s0 s4 s8 wx => ∃ (k q : Nat), s8 = .int .i64 ((k : Int) + 1) ∧ s4 = .int .i64 ((d + 4) % 7) ∧ s0 = .int .i64 (q : Int) ∧ k < 12 ∧ q < 400 ∧ Hid (q < remN lp (12 - k) (k + 1)) ∧ Hid (mrec lp (12 - k) (k + 1) q = civN d) ∧ Hid (Below wc.heap.size wc wx)) (fun _ _ s8 _ => 13 - (intOf s8).toNat)
            case atStart => exact ⟨0, r0, rfl, rfl, rfl, by decide, hr04, HR0, HCV, Below.refl _ _⟩
            case round =>
              obtain ⟨k, q, rfl, rfl, rfl, hk, hq4, HR, HC, HBx⟩ := hrel
              obtain ⟨f, hf⟩ : ∃ f, 12 - k = f + 1 := ⟨11 - k, by omega⟩
              have hR := HR.out
              have hC := HC.out
              rw [hf, remN] at hR
              rw [hf, mrec] at hC
              have hml := ml_le lp (k + 1)
              have hpl := ml_plain lp k
              have h29 : k = 1 → lp = true → mlN lp (k + 1) = 29 := fun e1 e2 => by unfold mlN; rw [if_pos ⟨by omega, e2⟩]
              have c0 := (box_cell wr lensA 3 k).trans (lens_at k hk)
              unfold lensA at c0
              have HBq := Lib.hid (HBx.out.trans (((Below.refl wr.heap.size wr).alloc (Nat.le_refl _) (.cells lensA 3)).mono HBx.out.size))
              unfold lensA at HBq
              obtain ⟨ml, hmle⟩ : ∃ ml, mlN lp (k + 1) = ml := ⟨_, rfl⟩
              rw [hmle] at hR hC hml hpl h29
              generalize lensN.getD k 0 = ln at *
              clear hmle HR HC HBx
              by_cases hk1 : k = 1
              · have t2 : ((k : Int) + 1 == 2) = true := by rw [beq_iff_eq]; omega
                cases lp with
                | true =>
                  obtain rfl : ml = 29 := h29 hk1 rfl
                  clear h29 hpl hk1 hml
                  by_cases hr : q < 29
                  · rw [if_pos hr] at hC
                    have HC1 := Lib.hid (show (civN d).1 = k + 1 ∧ (civN d).2 = q by rw [← hC]; exact ⟨rfl, rfl⟩)
                    have hrI : decide ((q : Int) < 29) = true := by rw [decide_eq_true_eq]; omega
                    clear hC hR hf hr
                    go_wp2_with fail
                    rw [← HQ.out]
                    go_ret3
                    exact ⟨by rw [HC1.out.1, HC1.out.2]; rfl, HBq.out⟩
                  · rw [if_neg hr] at hC
                    have hk12 : k + 1 < 12 := by
                      by_cases h : f = 0
                      · subst h
                        rw [remN] at hR
                        omega
                      · omega
                    have e12 : 12 - (k + 1) = f := by omega
                    have HR1 := Lib.hid (show q - 29 < remN true (12 - (k + 1)) (k + 1 + 1) by rw [e12]; omega)
                    have HC1 := Lib.hid (show mrec true (12 - (k + 1)) (k + 1 + 1) (q - 29) = civN d by rw [e12]; exact hC)
                    have HSB := Lib.hid (show (q : Int) - (29 : Int) = ((q - 29 : Nat) : Int) by omega)
                    have hr2 : q - 29 < 400 := by omega
                    have hrI : decide ((q : Int) < 29) = false := by rw [decide_eq_false_iff_not]; omega
                    clear hC hR hf e12 hr
                    go_wp2_with fail
                    go_roundw
                    case rel => exact ⟨k + 1, q - 29, by go_num, rfl, by rw [← HSB.out], hk12, hr2, HR1, HC1, HBq⟩
                    case measure => simp [intOf]; omega
                | false =>
                  obtain rfl : ml = ln := hpl (by simp)
                  clear h29 hpl hk1
                  by_cases hr : q < ml
                  · rw [if_pos hr] at hC
                    have HC1 := Lib.hid (show (civN d).1 = k + 1 ∧ (civN d).2 = q by rw [← hC]; exact ⟨rfl, rfl⟩)
                    clear hC hR hf
                    go_wp2_with fail
                    rw [← HQ.out]
                    go_ret3
                    exact ⟨by rw [HC1.out.1, HC1.out.2]; rfl, HBq.out⟩
                  · rw [if_neg hr] at hC
                    have hk12 : k + 1 < 12 := by
                      by_cases h : f = 0
                      · subst h
                        rw [remN] at hR
                        omega
                      · omega
                    have e12 : 12 - (k + 1) = f := by omega
                    have HR1 := Lib.hid (show q - ml < remN false (12 - (k + 1)) (k + 1 + 1) by rw [e12]; omega)
                    have HC1 := Lib.hid (show mrec false (12 - (k + 1)) (k + 1 + 1) (q - ml) = civN d by rw [e12]; exact hC)
                    have HSB := Lib.hid (show (q : Int) - (ml : Int) = ((q - ml : Nat) : Int) by omega)
                    have hr2 : q - ml < 400 := by omega
                    clear hC hR hf e12
                    go_wp2_with fail
                    go_roundw
                    case rel => exact ⟨k + 1, q - ml, by go_num, rfl, by rw [← HSB.out], hk12, hr2, HR1, HC1, HBq⟩
                    case measure => simp [intOf]; omega
              · have t2 : ((k : Int) + 1 == 2) = false := by rw [beq_eq_false_iff_ne]; omega
                obtain rfl : ml = ln := hpl (fun h => hk1 h.1)
                clear h29 hpl hk1
                by_cases hr : q < ml
                · rw [if_pos hr] at hC
                  have HC1 := Lib.hid (show (civN d).1 = k + 1 ∧ (civN d).2 = q by rw [← hC]; exact ⟨rfl, rfl⟩)
                  clear hC hR hf
                  go_wp2_with fail
                  rw [← HQ.out]
                  go_ret3
                  exact ⟨by rw [HC1.out.1, HC1.out.2]; rfl, HBq.out⟩
                · rw [if_neg hr] at hC
                  have hk12 : k + 1 < 12 := by
                    by_cases h : f = 0
                    · subst h
                      rw [remN] at hR
                      omega
                    · omega
                  have e12 : 12 - (k + 1) = f := by omega
                  have HR1 := Lib.hid (show q - ml < remN lp (12 - (k + 1)) (k + 1 + 1) by rw [e12]; omega)
                  have HC1 := Lib.hid (show mrec lp (12 - (k + 1)) (k + 1 + 1) (q - ml) = civN d by rw [e12]; exact hC)
                  have HSB := Lib.hid (show (q : Int) - (ml : Int) = ((q - ml : Nat) : Int) by omega)
                  have hr2 : q - ml < 400 := by omega
                  clear hC hR hf e12
                  go_wp2_with fail
                  go_roundw
                  case rel => exact ⟨k + 1, q - ml, by go_num, rfl, by rw [← HSB.out], hk12, hr2, HR1, HC1, HBq⟩
                  case measure => simp [intOf]; omega
        · have hD := HD.out
          have hy3 : y + 1 < 2100 := by
            by_cases h : y + 1 < 2100
            · exact h
            · have a := dn_le (show 2100 ≤ y + 1 by omega)
              have b := dn_2100
              omega
          have HD1 := Lib.hid (show dnN (y + 1) + (r - yl) = d by omega)
          clear hsuc hD
          go_wp2_with fail
          exact ⟨⟨y + 1, r - yl, rfl, rfl, by omega, by omega, by omega, by omega, HD1, trivial⟩, by simp [intOf]; omega⟩

end Go.Proofs.YtlhaidibcocooaaGreatDoor
