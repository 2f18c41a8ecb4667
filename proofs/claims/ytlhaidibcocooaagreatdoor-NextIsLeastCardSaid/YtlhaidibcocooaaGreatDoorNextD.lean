/- Times, the program: fitsDay and nextDue. -/
import Derived.Test.YtlhaidibcocooaaGreatDoorNextC
namespace Go.Proofs.YtlhaidibcocooaaGreatDoor
open Go.RowKit

set_option maxRecDepth 100000 in
set_option maxHeartbeats 6400000 in
theorem fitsDay_any (a0 a1 a2 a3 a4 : Nat) (b5 b6 : Bool) (d : Int) (w : World) (h2 : a2 < 18446744073709551616) (h3 : a3 < 18446744073709551616) (h4 : a4 < 18446744073709551616) (hd1 : 10957 ≤ d) (hd2 : d < 47482) :
    Calls Tryz.prog 70 #[.agg #[.int .u64 (a0 : Int), .int .u64 (a1 : Int), .int .u64 (a2 : Int), .int .u64 (a3 : Int), .int .u64 (a4 : Int), .bool b5, .bool b6], .int .i64 d] w fun e w' => e = .returned (.bool (dayB a2 a3 a4 b5 b6 d)) ∧ Below w.heap.size w w' := by
  have HX := Lib.hid (BX.start w #[.int .u64 (a0 : Int), .int .u64 (a1 : Int), .int .u64 (a2 : Int), .int .u64 (a3 : Int), .int .u64 (a4 : Int), .bool b5, .bool b6] 24)
  have HC := Lib.hid (fun W => Civil_any d W hd1 hd2)
  obtain ⟨hmo, hda⟩ := civ_range hd1 hd2
  have q2 := bit_is1 a2 ((civN d).2 + 1) h2
  have q3 := bit_is1 a3 (civN d).1 h3
  have q4 := bit_is1 a4 ((d + 11) % 7).toNat h4
  have r4 : 0 ≤ (d + 11) % 7 := by omega
  have hdb : dayB a2 a3 a4 b5 b6 d = (a3.testBit (civN d).1 && fitB (a2.testBit ((civN d).2 + 1)) (a4.testBit ((d + 11) % 7).toNat) b5 b6) := by
    unfold dayB bitW
    rw [show (d + 11) % 7 = (d + 4) % 7 by omega]
  generalize dayB a2 a3 a4 b5 b6 d = R at *
  generalize a2.testBit ((civN d).2 + 1) = D at *
  generalize a3.testBit (civN d).1 = M at *
  generalize a4.testBit ((d + 11) % 7).toNat = Wk at *
  generalize (civN d).1 = mo at *
  generalize (civN d).2 = da at *
  have HR := Lib.hid hdb.symm
  clear hdb h2 h3 h4
  go_enter Tryz.func70, Tryz.ntmps70
  go_wp2_with fail
  refine (HC.out _).mono ?_
  rintro e w2 ⟨y, rfl, hb2⟩
  have HX2 := Lib.hid (HX.out.keep hb2)
  clear hb2 HX
  have cx := HX2.out.cells
  have lx := HX2.out.lt
  go_wp2_with fail
  go_quiet (fail)
  have HX3 : Hid (Below w.heap.size w (w2.drewN nq)) := Lib.hid (below_drewN HX2.out.below nq)
  have cx3 : ∀ j, (w2.drewN nq).cell? ⟨w.heap.size, j, none⟩ = _ := cx
  have lx3 : w.heap.size < (w2.drewN nq).heap.size := lx
  generalize w2.drewN nq = w3 at *
  clear cx lx q2 q4
  cases b5 <;> cases b6 <;> cases D <;> cases Wk
  all_goals
    go_wp2_with fail
    go_ret
    exact ⟨ret_bool (by rw [← HR.out]; simp [fitB]), HX3.out⟩

variable {a0 a1 a2 a3 a4 : Nat} {b5 b6 : Bool} {c : Int}
theorem hour_none_h (_hc : 0 ≤ c) (h : a1.testBit (c % 1440 / 60).toNat = false) : ∀ j, c ≤ j → j < c / 1440 * 1440 + (c % 1440 / 60 + 1) * 60 → hitB a0 a1 a2 a3 a4 b5 b6 j = false := fun j h1 h2 => by
  have e : j / 60 % 24 = c % 1440 / 60 := by omega
  unfold hitB
  rw [e, h]
  simp
theorem hour_none_m (_hc : 0 ≤ c) (h : a0 / 2 ^ (c % 60).toNat = 0) : ∀ j, c ≤ j → j < c / 1440 * 1440 + (c % 1440 / 60 + 1) * 60 → hitB a0 a1 a2 a3 a4 b5 b6 j = false := fun j h1 h2 => by
  have e : (j % 60).toNat = ((j % 60).toNat - (c % 60).toNat) + (c % 60).toNat := by omega
  have hb : a0.testBit (j % 60).toNat = false := by
    rw [e, ← Nat.testBit_div_two_pow, h]
    simp
  unfold hitB
  rw [hb]
  simp
theorem due_hit (_hc : 0 ≤ c) (ha : a0 < 1152921504606846976) (hl : a0 / 2 ^ (c % 60).toNat ≠ 0) (hh : a1.testBit (c % 1440 / 60).toNat = true) (hd : dayB a2 a3 a4 b5 b6 (c / 1440) = true) :
    (c % 60).toNat + Lib.ctz 64 (a0 / 2 ^ (c % 60).toNat) < 60 ∧ hitB a0 a1 a2 a3 a4 b5 b6 (c + (Lib.ctz 64 (a0 / 2 ^ (c % 60).toNat) : Nat)) = true ∧ ∀ j, c ≤ j → j < c + (Lib.ctz 64 (a0 / 2 ^ (c % 60).toNat) : Nat) → hitB a0 a1 a2 a3 a4 b5 b6 j = false := by
  have hlt : a0 / 2 ^ (c % 60).toNat < 18446744073709551616 := Nat.lt_of_le_of_lt (Nat.div_le_self _ _) (by omega)
  obtain ⟨t1, t2⟩ := ctz_bit hl hlt
  generalize hk : Lib.ctz 64 (a0 / 2 ^ (c % 60).toNat) = k at *
  rw [Nat.testBit_div_two_pow, Nat.add_comm] at t1
  have hlim : (c % 60).toNat + k < 60 := by
    by_cases h : (c % 60).toNat + k < 60
    · exact h
    · have hz := Nat.testBit_lt_two_pow (x := a0) (i := (c % 60).toNat + k) (Nat.lt_of_lt_of_le ha (by
        have : (1152921504606846976 : Nat) = 2 ^ 60 := by decide
        rw [this]
        exact Nat.pow_le_pow_right (by decide) (by omega)))
      rw [hz] at t1
      cases t1
  refine ⟨hlim, ?_, fun j h1 h2 => ?_⟩
  · unfold hitB
    rw [show (c + (k : Int)) / 1440 = c / 1440 by omega, hd, show (c + (k : Int)) / 60 % 24 = c % 1440 / 60 by omega, hh, show ((c + (k : Int)) % 60).toNat = (c % 60).toNat + k by omega, t1]
    rfl
  · have e : (j % 60).toNat = (j - c).toNat + (c % 60).toNat := by omega
    have hb : a0.testBit (j % 60).toNat = false := by
      rw [e, ← Nat.testBit_div_two_pow]
      exact t2 _ (by omega)
    unfold hitB
    rw [hb]
    simp
def dueV (r : Option Int) : Value := match r with
  | some n => .tuple #[.int .i64 n, .bool true]
  | none => .tuple #[.int .i64 0, .bool false]
def DueGives (f : Int → Bool) (m : Int) (w : World) (e : Ending) (w' : World) : Prop := ∃ r : Option Int, LeastAt f m 68374080 r ∧ e = .returned (dueV r) ∧ Below w.heap.size w w'

end Go.Proofs.YtlhaidibcocooaaGreatDoor
