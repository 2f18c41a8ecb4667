/- Times: the least minute that fits, plain; the reference's fitsTimes. -/
import Derived.Test.YtlhaidibcocooaaGreatDoorCalD
import Derived.Test.YtlhaidibcocooaaGreatDoorTimesD
import Derived.BigQuiet
namespace Go.Proofs.YtlhaidibcocooaaGreatDoor
open Go.RowKit

def bitW (a4 : Nat) (d : Int) : Bool := a4.testBit ((d + 4) % 7).toNat
def fitB (D W b5 b6 : Bool) : Bool := if b5 = false ∧ b6 = false then D || W else D && W
noncomputable def dayB (a2 a3 a4 : Nat) (b5 b6 : Bool) (d : Int) : Bool := a3.testBit (civN d).1 && fitB (a2.testBit ((civN d).2 + 1)) (bitW a4 d) b5 b6
noncomputable def hitB (a0 a1 a2 a3 a4 : Nat) (b5 b6 : Bool) (m : Int) : Bool := a0.testBit (m % 60).toNat && a1.testBit (m / 60 % 24).toNat && dayB a2 a3 a4 b5 b6 (m / 1440)
theorem bit_is1 (a n : Nat) (h : a < 18446744073709551616) : (bits .and .u64 ((a : Int) / (2 : Int) ^ n) 1 == 1) = a.testBit n := by
  rw [bit_at a n h]
  cases a.testBit n <;> rfl
theorem bit_is0 (a n : Nat) (h : a < 18446744073709551616) : (bits .and .u64 ((a : Int) / (2 : Int) ^ n) 1 == 0) = !a.testBit n := by
  rw [bit_at a n h]
  cases a.testBit n <;> rfl

theorem year_ex {d : Int} (h1 : 10957 ≤ d) (h2 : d < 47482) : ∃ y, IsYear d y := by
  have key : ∀ k : Nat, d < dnN (2000 + k) → ∃ y, IsYear d y := by
    intro k
    induction k with
    | zero => intro h; have := dn_2000; simp at h; omega
    | succ k ih =>
      intro h
      by_cases hk : d < dnN (2000 + (k : Int))
      · exact ih hk
      · exact ⟨2000 + (k : Int), by omega, by rw [show (2000 + (k : Int) + 1) = 2000 + ((k + 1 : Nat) : Int) by omega]; exact h⟩
  have := dn_2100
  exact key 100 (by show d < dnN 2100; omega)
theorem civ_range {d : Int} (h1 : 10957 ≤ d) (h2 : d < 47482) : (civN d).1 ≤ 12 ∧ (civN d).2 < 31 := by
  obtain ⟨y, hy⟩ := year_ex h1 h2
  have := civ_ok hy
  exact ⟨this.2.1, this.2.2⟩

set_option maxRecDepth 100000 in
set_option maxHeartbeats 6400000 in
theorem rfits_any (a0 a1 a2 a3 a4 : Nat) (b5 b6 : Bool) (m : Int) (w : World) (h0 : a0 < 18446744073709551616) (h1 : a1 < 18446744073709551616) (h2 : a2 < 18446744073709551616) (h3 : a3 < 18446744073709551616) (h4 : a4 < 18446744073709551616) (hm1 : 15778080 ≤ m) (hm2 : m < 68374080) :
    Calls Tryz.prog 73 #[.agg #[.int .u64 (a0 : Int), .int .u64 (a1 : Int), .int .u64 (a2 : Int), .int .u64 (a3 : Int), .int .u64 (a4 : Int), .bool b5, .bool b6], .int .i64 m] w fun e w' => e = .returned (.bool (hitB a0 a1 a2 a3 a4 b5 b6 m)) ∧ Below w.heap.size w w' := by
  have HX := Lib.hid (BX.start w #[.int .u64 (a0 : Int), .int .u64 (a1 : Int), .int .u64 (a2 : Int), .int .u64 (a3 : Int), .int .u64 (a4 : Int), .bool b5, .bool b6] 24)
  have cx := HX.out.cells
  have lx := HX.out.lt
  have HC := Lib.hid (fun W => rcivil_any (m / 1440) W (by omega) (by omega))
  obtain ⟨R, hR⟩ : ∃ R, hitB a0 a1 a2 a3 a4 b5 b6 m = R := ⟨_, rfl⟩
  have HR := Lib.hid hR
  unfold hitB dayB bitW at hR
  rw [show hitB a0 a1 a2 a3 a4 b5 b6 m = R from HR.out]
  have q0 := bit_is0 a0 (m % 60).toNat h0
  have q1 := bit_is0 a1 (m / 60 % 24).toNat h1
  have r0 : 0 ≤ m % 60 := by omega
  have r1 : 0 ≤ m / 60 % 24 := by omega
  have r2 : 0 ≤ m / 60 := by omega
  have r3 : 0 ≤ m / 1440 := by omega
  have q2 := bit_is1 a2 ((civN (m / 1440)).2 + 1) h2
  have q3 := bit_is0 a3 (civN (m / 1440)).1 h3
  have q4 := bit_is1 a4 ((m / 1440 + 4) % 7).toNat h4
  have r4 : 0 ≤ (m / 1440 + 4) % 7 := by omega
  have hcr := civ_range (d := m / 1440) (by omega) (by omega)
  obtain ⟨hmo, hda⟩ := hcr
  generalize a0.testBit (m % 60).toNat = mb at *
  generalize a1.testBit (m / 60 % 24).toNat = hb at *
  generalize a2.testBit ((civN (m / 1440)).2 + 1) = D at *
  generalize a3.testBit (civN (m / 1440)).1 = M at *
  generalize a4.testBit ((m / 1440 + 4) % 7).toNat = Wk at *
  clear HR h0 h1 h2 h3 h4
  unfold RCivGives at HC
  generalize (civN (m / 1440)).1 = mo at *
  generalize (civN (m / 1440)).2 = da at *
  have HR := Lib.hid hR
  clear hR
  cases mb with
  | false =>
    go_enter Tryz.func73, Tryz.ntmps73
    go_wp2_with fail
    go_ret
    exact ⟨ret_bool (by rw [← HR.out]; rfl), HX.out.below⟩
  | true =>
    cases hb with
    | false =>
      go_enter Tryz.func73, Tryz.ntmps73
      go_wp2_with fail
      go_ret
      exact ⟨ret_bool (by rw [← HR.out]; rfl), HX.out.below⟩
    | true =>
      go_enter Tryz.func73, Tryz.ntmps73
      go_wp2_with fail
      refine (HC.out _).mono ?_
      rintro e w2 ⟨rfl, hb2⟩
      have HX2 := Lib.hid (HX.out.keep hb2)
      clear cx lx hb2 HX q0 q1
      have cx := HX2.out.cells
      have lx := HX2.out.lt
      cases M with
      | false =>
        go_wp2_with fail
        go_ret
        exact ⟨ret_bool (by rw [← HR.out]; rfl), HX2.out.below⟩
      | true =>
        go_upto_region 6 with fail
        go_quiet (fail)
        have HX3 : Hid (Below w.heap.size w (w2.drewN nq)) := Lib.hid (below_drewN HX2.out.below nq)
        have cx3 : ∀ j, (w2.drewN nq).cell? ⟨w.heap.size, j, none⟩ = _ := cx
        generalize w2.drewN nq = w3 at *
        clear cx q2 q3 q4
        cases b5 <;> cases b6 <;> cases D
        all_goals
          go_wp2_with fail
          go_ret
          exact ⟨ret_bool (by rw [← HR.out]; simp [fitB]), HX3.out⟩

end Go.Proofs.YtlhaidibcocooaaGreatDoor
