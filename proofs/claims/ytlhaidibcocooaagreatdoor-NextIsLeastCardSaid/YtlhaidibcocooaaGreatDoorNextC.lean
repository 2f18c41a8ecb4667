/- Times, the program: the lowest bit of a set; the year's first minute. -/
import Derived.Test.YtlhaidibcocooaaGreatDoorNextB
import Derived.Shelf.Spec.TrailingZeros
namespace Go.Proofs.YtlhaidibcocooaaGreatDoor
open Go.RowKit Go.Shelf

def tzRen : Ren := ⟨fun | 29 => 71 | n => n, fun | 25 => 79 | 54 => 158 | 0 => 0 | 3 => 3 | 4 => 4 | 5 => 5 | 22 => 22 | n => n, fun | 1 => 0 | n => n⟩
theorem tzLays : Lays7.n29 Tryz.prog tzRen := {
  mixed := by kernel_rfl
  f29 := Tryz.func71.trans (congrArg some (by kernel_rfl))
  t0 := Tryz.underlying0
  a0 := Tryz.isAgg0
  z0 := Tryz.sizeOf0
  v0 := Tryz.zeroValue0
  i0 := by kernel_rfl
  t3 := Tryz.underlying3
  a3 := Tryz.isAgg3
  z3 := Tryz.sizeOf3
  v3 := Tryz.zeroValue3
  i3 := by kernel_rfl
  t4 := Tryz.underlying4
  a4 := Tryz.isAgg4
  z4 := Tryz.sizeOf4
  v4 := Tryz.zeroValue4
  i4 := by kernel_rfl
  t5 := Tryz.underlying5
  a5 := Tryz.isAgg5
  z5 := Tryz.sizeOf5
  v5 := Tryz.zeroValue5
  i5 := by kernel_rfl
  t22 := Tryz.underlying22
  a22 := Tryz.isAgg22
  z22 := Tryz.sizeOf22
  v22 := Tryz.zeroValue22
  i22 := by kernel_rfl
  t25 := Tryz.underlying79
  a25 := Tryz.isAgg79
  z25 := Tryz.sizeOf79
  v25 := Tryz.zeroValue79
  i25 := by kernel_rfl
  t54 := Tryz.underlying158
  a54 := Tryz.isAgg158
  z54 := Tryz.sizeOf158
  g1 := by kernel_rfl }
/-- the table that TrailingZeros64 reads -/
def DebAt (w : World) : Prop := TabAt 0 Lib.deBruijn64tab w
theorem DebAt.keep {w w' : World} (h : DebAt w) (hb : Below w.heap.size w w') : DebAt w' := fun j hj => by
  have h1 := h j hj
  exact (hb.cell (p := ⟨_, j, none⟩) (World.block_lt_of_cell? w _ h1)).trans h1
theorem tz_any (x : Nat) (hx : x < 18446744073709551616) (w : World) (hT : DebAt w) : Calls Tryz.prog 71 #[.int .u64 (x : Int)] w fun e w' => e = .returned (.int .i64 (Lib.ctz 64 x : Nat)) ∧ w' = w :=
  Any7.bits_TrailingZeros64 tzLays x hx w (fun _ => hT)
/-- the lowest bit of a set that is not empty -/
theorem ctz_bit {x : Nat} (h0 : x ≠ 0) (h : x < 18446744073709551616) : x.testBit (Lib.ctz 64 x) = true ∧ ∀ j, j < Lib.ctz 64 x → x.testBit j = false := by
  have hc : Lib.ctz 64 x = Lib.ctzFrom 64 x := by unfold Lib.ctz; rw [if_neg h0]
  rw [hc]
  obtain ⟨m, hm, _⟩ := Lib.ctzFrom_spec 64 x (by omega) h
  generalize Lib.ctzFrom 64 x = k at *
  subst hm
  refine ⟨?_, fun j hj => ?_⟩
  · rw [Nat.testBit_eq_decide_div_mod_eq, Nat.mul_div_cancel_left _ (Nat.two_pow_pos k)]
    simp
  · rw [Nat.testBit_eq_decide_div_mod_eq]
    have : 2 ^ k = 2 ^ j * 2 ^ (k - j) := by rw [← Nat.pow_add]; congr 1; omega
    rw [this, Nat.mul_assoc, Nat.mul_div_cancel_left _ (Nat.two_pow_pos j)]
    have h2 : 2 ^ (k - j) = 2 * 2 ^ (k - j - 1) := by rw [← Nat.pow_succ']; congr 1; omega
    rw [h2, Nat.mul_assoc]
    simp

set_option maxHeartbeats 800000 in
theorem yearBegin_any (y : Int) (w : World) (h1 : 1 ≤ y) (h2 : y ≤ 9999) : Calls Tryz.prog 42 #[.int .i64 y] w fun e w' => e = .returned (.int .i64 (dnN y * 1440)) ∧ Below w.heap.size w w' := by
  have HD := Lib.hid (fun W => day_jan y W h1 h2)
  have hd : -800000 ≤ dnN y ∧ dnN y ≤ 4000000 := by have := yb_range h1 (show y ≤ 10000 by omega); unfold dnN; omega
  generalize dnN y = dn at *
  go_enter Tryz.func42, Tryz.ntmps42
  go_wp2_with fail
  refine (HD.out _).mono ?_
  rintro e w2 ⟨rfl, hb⟩
  have HB := Lib.hid hb
  clear hb
  go_wp2_with fail
  go_ret
  exact ⟨rfl, HB.out⟩
theorem begin_2000 (w : World) : Calls Tryz.prog 42 #[.int .i64 2000] w fun e w' => e = .returned (.int .i64 15778080) ∧ Below w.heap.size w w' := by
  have := yearBegin_any 2000 w (by decide) (by decide)
  rw [dn_2000] at this
  exact this
theorem begin_2100 (w : World) : Calls Tryz.prog 42 #[.int .i64 2100] w fun e w' => e = .returned (.int .i64 68374080) ∧ Below w.heap.size w w' := by
  have := yearBegin_any 2100 w (by decide) (by decide)
  rw [dn_2100] at this
  exact this
set_option maxHeartbeats 800000 in
theorem bwithin_any (n low high : Int) (w : World) : Calls Tryz.prog 41 #[.int .i64 n, .int .i64 low, .int .i64 high] w fun e w' => e = .returned (.bool (decide (low ≤ n ∧ n ≤ high))) ∧ w = w' := by
  by_cases h1 : low ≤ n
  · by_cases h2 : n ≤ high
    · have hd : decide (low ≤ n ∧ n ≤ high) = true := by simp [h1, h2]
      rw [hd]
      clear hd
      go_enter Tryz.func41, Tryz.ntmps41
      go_wp2
      go_ret
      exact ⟨rfl, rfl⟩
    · have hd : decide (low ≤ n ∧ n ≤ high) = false := by simp [h2]
      rw [hd]
      have hd2 : decide (n ≤ high) = false := by simpa using h2
      clear hd
      go_enter Tryz.func41, Tryz.ntmps41
      go_wp2
      go_ret
      exact ⟨rfl, rfl⟩
  · have hd : decide (low ≤ n ∧ n ≤ high) = false := by simp [h1]
    rw [hd]
    have hd2 : decide (low ≤ n) = false := by simpa using h1
    clear hd
    go_enter Tryz.func41, Tryz.ntmps41
    go_wp2
    go_ret
    exact ⟨rfl, rfl⟩
set_option maxHeartbeats 800000 in
theorem inYears_any (m : Int) (w : World) : Calls Tryz.prog 36 #[.int .i64 m] w fun e w' => e = .returned (.bool (decide (15778080 ≤ m ∧ m ≤ 68374079))) ∧ Below w.heap.size w w' := by
  obtain ⟨R, hR⟩ : ∃ R, decide (15778080 ≤ m ∧ m ≤ 68374079) = R := ⟨_, rfl⟩
  have HW := Lib.hid (fun W => bwithin_any m 15778080 68374079 W)
  rw [hR] at HW
  rw [hR]
  clear hR
  go_enter Tryz.func36, Tryz.ntmps36
  go_wp2_with fail
  refine (begin_2000 _).mono ?_
  rintro e w2 ⟨rfl, hb⟩
  have HB := Lib.hid hb
  clear hb
  go_wp2_with fail
  refine (begin_2100 _).mono ?_
  rintro e w3 ⟨rfl, hb⟩
  have HB3 := Lib.hid (HB.out.trans (hb.mono HB.out.size))
  clear hb
  go_wp2_with fail
  refine (HW.out _).mono ?_
  rintro e w4 ⟨rfl, rfl⟩
  go_wp2_with fail
  go_ret
  exact ⟨rfl, HB3.out⟩

end Go.Proofs.YtlhaidibcocooaaGreatDoor
