/- Civil dates, plain: years, months, days since 1970. -/
import Derived.Lib.Hide
namespace Go.Proofs.YtlhaidibcocooaaGreatDoor

def lpB (y : Int) : Bool := decide (y % 4 = 0 ∧ (y % 100 ≠ 0 ∨ y % 400 = 0))
def ylN (y : Int) : Int := if lpB y = true then 366 else 365
/-- days ahead of a year, from the year 1 on -/
def ybN (y : Int) : Int := 365 * (y - 1) + (y - 1) / 4 - (y - 1) / 100 + (y - 1) / 400
/-- the number of a year's first day since 1970 -/
def dnN (y : Int) : Int := ybN y - 719162
theorem yb_1970 : ybN 1970 = 719162 := by decide
theorem lpB_iff (y : Int) : lpB y = true ↔ y % 4 = 0 ∧ (y % 100 ≠ 0 ∨ y % 400 = 0) := by unfold lpB; simp
theorem dn_succ (y : Int) : dnN (y + 1) = dnN y + ylN y := by
  unfold dnN ybN ylN
  by_cases h : lpB y = true
  · rw [if_pos h]
    rw [lpB_iff] at h
    omega
  · rw [if_neg h]
    rw [lpB_iff] at h
    omega
theorem dn_mono {a b : Int} (h : a < b) : dnN (a + 1) ≤ dnN b := by
  unfold dnN ybN
  omega
def IsYear (d y : Int) : Prop := dnN y ≤ d ∧ d < dnN (y + 1)
theorem year_unique {d a b : Int} (ha : IsYear d a) (hb : IsYear d b) : a = b := by
  unfold IsYear at ha hb
  rcases Int.lt_trichotomy a b with h | h | h
  · have := dn_mono h; omega
  · exact h
  · have := dn_mono h; omega
theorem dn_2000 : dnN 2000 = 10957 := by decide
theorem dn_2100 : dnN 2100 = 47482 := by decide
theorem dn_le {a b : Int} (h : a ≤ b) : dnN a ≤ dnN b := by
  unfold dnN ybN
  omega
theorem year_range {d y : Int} (h : IsYear d y) (h1 : 10957 ≤ d) (h2 : d < 47482) : 2000 ≤ y ∧ y < 2100 := by
  unfold IsYear at h
  have a := dn_2000
  have b := dn_2100
  constructor
  · by_cases hy : y < 2000
    · have := dn_le (show y + 1 ≤ 2000 by omega); omega
    · omega
  · by_cases hy : y < 2100
    · exact hy
    · have := dn_le (show 2100 ≤ y by omega); omega

def lensN : List Nat := [31, 28, 31, 30, 31, 30, 31, 31, 30, 31, 30, 31]
def mlN (lp : Bool) (m : Nat) : Nat := if m = 2 ∧ lp = true then 29 else lensN.getD (m - 1) 0
/-- the days from a month on -/
def remN (lp : Bool) : Nat → Nat → Nat
  | 0, _ => 0
  | f + 1, m => mlN lp m + remN lp f (m + 1)
/-- the month and the day in it (from 0) -/
def mrec (lp : Bool) : Nat → Nat → Nat → Nat × Nat
  | 0, m, d => (m, d)
  | f + 1, m, d => if d < mlN lp m then (m, d) else mrec lp f (m + 1) (d - mlN lp m)
theorem rem_year (y : Int) : (remN (lpB y) 12 1 : Int) = ylN y := by
  unfold ylN
  cases lpB y <;> decide
theorem mrec_ok (lp : Bool) (f m d : Nat) (h : d < remN lp f m) : m ≤ (mrec lp f m d).1 ∧ (mrec lp f m d).1 < m + f ∧ (mrec lp f m d).2 < mlN lp (mrec lp f m d).1 := by
  induction f generalizing m d with
  | zero => simp [remN] at h
  | succ f ih =>
    rw [mrec]
    split
    · rename_i hd
      exact ⟨Nat.le_refl _, by omega, hd⟩
    · rename_i hd
      have := ih (m + 1) (d - mlN lp m) (by rw [remN] at h; omega)
      exact ⟨by omega, by omega, this.2.2⟩
theorem ml_le (lp : Bool) (m : Nat) : mlN lp m ≤ 31 := by
  unfold mlN
  split
  · decide
  · unfold lensN
    match m with
    | 0 | 1 | 2 | 3 | 4 | 5 | 6 | 7 | 8 | 9 | 10 | 11 | 12 => decide
    | n + 13 => simp

/-- the year of a day -/
noncomputable def yrN (d : Int) : Int := open Classical in if h : ∃ y, IsYear d y then Classical.choose h else 0
theorem yr_of {d y : Int} (h : IsYear d y) : yrN d = y := by
  unfold yrN
  rw [dif_pos ⟨y, h⟩]
  exact year_unique (Classical.choose_spec (⟨y, h⟩ : ∃ y, IsYear d y)) h
noncomputable def civN (d : Int) : Nat × Nat := mrec (lpB (yrN d)) 12 1 (d - dnN (yrN d)).toNat
theorem civ_of {d y : Int} (h : IsYear d y) : civN d = mrec (lpB y) 12 1 (d - dnN y).toNat := by
  unfold civN
  rw [yr_of h]
theorem civ_ok {d y : Int} (h : IsYear d y) : 1 ≤ (civN d).1 ∧ (civN d).1 ≤ 12 ∧ (civN d).2 < 31 := by
  rw [civ_of h]
  have hr := rem_year y
  have hs := dn_succ y
  unfold IsYear at h
  have := mrec_ok (lpB y) 12 1 (d - dnN y).toNat (by omega)
  have := ml_le (lpB y) (mrec (lpB y) 12 1 (d - dnN y).toNat).1
  omega

end Go.Proofs.YtlhaidibcocooaaGreatDoor
