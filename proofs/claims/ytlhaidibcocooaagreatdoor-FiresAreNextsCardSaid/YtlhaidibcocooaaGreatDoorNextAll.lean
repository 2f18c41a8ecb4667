/- Times, the program: nextDue tells the least minute that fits. -/
import Derived.Test.YtlhaidibcocooaaGreatDoorCalAll
import Derived.Test.YtlhaidibcocooaaGreatDoorTimesD
import Derived.BigQuiet
import Derived.Deep.DeepCutAuto
import Derived.Shelf.Spec.TrailingZeros
namespace Go.Proofs.YtlhaidibcocooaaGreatDoor
open Go.RowKit

def bitW (a4 : Nat) (d : Int) : Bool := a4.testBit ((d + 4) % 7).toNat
def fitB (D W b5 b6 : Bool) : Bool := if b5 = false ∧ b6 = false then D || W else D && W
noncomputable def dayB (a2 a3 a4 : Nat) (b5 b6 : Bool) (d : Int) : Bool := a3.testBit (civN d).1 && fitB (a2.testBit ((civN d).2 + 1)) (bitW a4 d) b5 b6
noncomputable def hitB (a0 a1 a2 a3 a4 : Nat) (b5 b6 : Bool) (m : Int) : Bool := a0.testBit (m % 60).toNat && a1.testBit (m / 60 % 24).toNat && dayB a2 a3 a4 b5 b6 (m / 1440)
theorem bit_is1 (a n : Nat) (h : a < 18446744073709551616) : (bits .and .u64 ((a : Int) / (2 : Int) ^ n) 1 == 1) = a.testBit n := by
  rw [bit_at a n h]
  cases a.testBit n <;> rfl
theorem bit_is0 (a n : Nat) (h : a < 18446744073709551616) : (bits .and .u64 ((a : Int) / (2 : Int) ^ n) 1 == 0) = !a.testBit n := by
  rw [bit_at a n h]
  cases a.testBit n <;> rfl

theorem year_ex {d : Int} (h1 : 10957 ≤ d) (h2 : d < 47482) : ∃ y, IsYear d y := by
  have key : ∀ k : Nat, d < dnN (2000 + k) → ∃ y, IsYear d y := by
    intro k
    induction k with
    | zero => intro h; have := dn_2000; simp at h; omega
    | succ k ih =>
      intro h
      by_cases hk : d < dnN (2000 + (k : Int))
      · exact ih hk
      · exact ⟨2000 + (k : Int), by omega, by rw [show (2000 + (k : Int) + 1) = 2000 + ((k + 1 : Nat) : Int) by omega]; exact h⟩
  have := dn_2100
  exact key 100 (by show d < dnN 2100; omega)
theorem civ_range {d : Int} (h1 : 10957 ≤ d) (h2 : d < 47482) : (civN d).1 ≤ 12 ∧ (civN d).2 < 31 := by
  obtain ⟨y, hy⟩ := year_ex h1 h2
  have := civ_ok hy
  exact ⟨this.2.1, this.2.2⟩

set_option maxRecDepth 100000 in
set_option maxHeartbeats 6400000 in
theorem rfits_any (a0 a1 a2 a3 a4 : Nat) (b5 b6 : Bool) (m : Int) (w : World) (h0 : a0 < 18446744073709551616) (h1 : a1 < 18446744073709551616) (h2 : a2 < 18446744073709551616) (h3 : a3 < 18446744073709551616) (h4 : a4 < 18446744073709551616) (hm1 : 15778080 ≤ m) (hm2 : m < 68374080) :
    Calls Tryz.prog 73 #[.agg #[.int .u64 (a0 : Int), .int .u64 (a1 : Int), .int .u64 (a2 : Int), .int .u64 (a3 : Int), .int .u64 (a4 : Int), .bool b5, .bool b6], .int .i64 m] w fun e w' => e = .returned (.bool (hitB a0 a1 a2 a3 a4 b5 b6 m)) ∧ Below w.heap.size w w' := by
  have HX := Lib.hid (BX.start w #[.int .u64 (a0 : Int), .int .u64 (a1 : Int), .int .u64 (a2 : Int), .int .u64 (a3 : Int), .int .u64 (a4 : Int), .bool b5, .bool b6] 24)
  have cx := HX.out.cells
  have lx := HX.out.lt
  have HC := Lib.hid (fun W => rcivil_any (m / 1440) W (by omega) (by omega))
  obtain ⟨R, hR⟩ : ∃ R, hitB a0 a1 a2 a3 a4 b5 b6 m = R := ⟨_, rfl⟩
  have HR := Lib.hid hR
  unfold hitB dayB bitW at hR
  rw [show hitB a0 a1 a2 a3 a4 b5 b6 m = R from HR.out]
  have q0 := bit_is0 a0 (m % 60).toNat h0
  have q1 := bit_is0 a1 (m / 60 % 24).toNat h1
  have r0 : 0 ≤ m % 60 := by omega
  have r1 : 0 ≤ m / 60 % 24 := by omega
  have r2 : 0 ≤ m / 60 := by omega
  have r3 : 0 ≤ m / 1440 := by omega
  have q2 := bit_is1 a2 ((civN (m / 1440)).2 + 1) h2
  have q3 := bit_is0 a3 (civN (m / 1440)).1 h3
  have q4 := bit_is1 a4 ((m / 1440 + 4) % 7).toNat h4
  have r4 : 0 ≤ (m / 1440 + 4) % 7 := by omega
  have hcr := civ_range (d := m / 1440) (by omega) (by omega)
  obtain ⟨hmo, hda⟩ := hcr
  generalize a0.testBit (m % 60).toNat = mb at *
  generalize a1.testBit (m / 60 % 24).toNat = hb at *
  generalize a2.testBit ((civN (m / 1440)).2 + 1) = D at *
  generalize a3.testBit (civN (m / 1440)).1 = M at *
  generalize a4.testBit ((m / 1440 + 4) % 7).toNat = Wk at *
  clear HR h0 h1 h2 h3 h4
  unfold RCivGives at HC
  generalize (civN (m / 1440)).1 = mo at *
  generalize (civN (m / 1440)).2 = da at *
  have HR := Lib.hid hR
  clear hR
  cases mb with
  | false =>
    go_enter Tryz.func73, Tryz.ntmps73
    go_wp2_with fail
    go_ret
    exact ⟨ret_bool (by rw [← HR.out]; rfl), HX.out.below⟩
  | true =>
    cases hb with
    | false =>
      go_enter Tryz.func73, Tryz.ntmps73
      go_wp2_with fail
      go_ret
      exact ⟨ret_bool (by rw [← HR.out]; rfl), HX.out.below⟩
    | true =>
      go_enter Tryz.func73, Tryz.ntmps73
      go_wp2_with fail
      refine (HC.out _).mono ?_
      rintro e w2 ⟨rfl, hb2⟩
      have HX2 := Lib.hid (HX.out.keep hb2)
      clear cx lx hb2 HX q0 q1
      have cx := HX2.out.cells
      have lx := HX2.out.lt
      cases M with
      | false =>
        go_wp2_with fail
        go_ret
        exact ⟨ret_bool (by rw [← HR.out]; rfl), HX2.out.below⟩
      | true =>
        go_upto_region 6 with fail
        go_quiet (fail)
        have HX3 : Hid (Below w.heap.size w (w2.drewN nq)) := Lib.hid (below_drewN HX2.out.below nq)
        have cx3 : ∀ j, (w2.drewN nq).cell? ⟨w.heap.size, j, none⟩ = _ := cx
        generalize w2.drewN nq = w3 at *
        clear cx q2 q3 q4
        cases b5 <;> cases b6 <;> cases D
        all_goals
          go_wp2_with fail
          go_ret
          exact ⟨ret_bool (by rw [← HR.out]; simp [fitB]), HX3.out⟩

end Go.Proofs.YtlhaidibcocooaaGreatDoor

namespace Go.Proofs.YtlhaidibcocooaaGreatDoor
open Go.RowKit

/-- the least number from m on, below e, at which f holds -/
def LeastAt (f : Int → Bool) (m e : Int) : Option Int → Prop
  | some n => m ≤ n ∧ n < e ∧ f n = true ∧ ∀ j, m ≤ j → j < n → f j = false
  | none => ∀ j, m ≤ j → j < e → f j = false
theorem least_unique {f : Int → Bool} {m e : Int} {a b : Option Int} (ha : LeastAt f m e a) (hb : LeastAt f m e b) : a = b := by
  cases a with
  | none =>
    cases b with
    | none => rfl
    | some n => have := ha n hb.1 hb.2.1; rw [hb.2.2.1] at this; cases this
  | some n =>
    cases b with
    | none => have := hb n ha.1 ha.2.1; rw [ha.2.2.1] at this; cases this
    | some k =>
      have h1 : ¬ n < k := fun h => by have := hb.2.2.2 n ha.1 h; rw [ha.2.2.1] at this; cases this
      have h2 : ¬ k < n := fun h => by have := ha.2.2.2 k hb.1 h; rw [hb.2.2.1] at this; cases this
      congr 1
      omega
/-- no minute fits from m up to c -/
def NoneIn (f : Int → Bool) (m c : Int) : Prop := ∀ j, m ≤ j → j < c → f j = false
theorem none_step {f : Int → Bool} {m c c' : Int} (h : NoneIn f m c) (h2 : ∀ j, c ≤ j → j < c' → f j = false) : NoneIn f m c' := fun j h1 h3 => by
  by_cases hj : j < c
  · exact h j h1 hj
  · exact h2 j (by omega) h3
theorem day_none {a0 a1 a2 a3 a4 : Nat} {b5 b6 : Bool} {c : Int} (h : dayB a2 a3 a4 b5 b6 (c / 1440) = false) : ∀ j, c ≤ j → j < (c / 1440 + 1) * 1440 → hitB a0 a1 a2 a3 a4 b5 b6 j = false := fun j h1 h2 => by
  have : j / 1440 = c / 1440 := by omega
  unfold hitB
  rw [this, h]
  simp
def RNextGives (f : Int → Bool) (m : Int) (w : World) (e : Ending) (w' : World) : Prop := ∃ r : Option Int, LeastAt f m 68374080 r ∧ e = .returned (.int .i64 (r.getD (-1))) ∧ Below w.heap.size w w'

set_option maxRecDepth 100000 in
set_option maxHeartbeats 6400000 in
theorem rnext_any (a0 a1 a2 a3 a4 : Nat) (b5 b6 : Bool) (m : Int) (w : World) (h0 : a0 < 18446744073709551616) (h1 : a1 < 18446744073709551616) (h2 : a2 < 18446744073709551616) (h3 : a3 < 18446744073709551616) (h4 : a4 < 18446744073709551616) (hm1 : 15778080 ≤ m) (hm2 : m ≤ 68374080) :
    Calls Tryz.prog 38 #[.agg #[.int .u64 (a0 : Int), .int .u64 (a1 : Int), .int .u64 (a2 : Int), .int .u64 (a3 : Int), .int .u64 (a4 : Int), .bool b5, .bool b6], .int .i64 m] w (RNextGives (hitB a0 a1 a2 a3 a4 b5 b6) m w) := by
  have HF := Lib.hid (fun c W hc1 hc2 => rfits_any a0 a1 a2 a3 a4 b5 b6 c W h0 h1 h2 h3 h4 hc1 hc2)
  have HDN := Lib.hid (fun c hc => @day_none a0 a1 a2 a3 a4 b5 b6 c hc)
  have HX := Lib.hid (BX.start w #[.int .u64 (a0 : Int), .int .u64 (a1 : Int), .int .u64 (a2 : Int), .int .u64 (a3 : Int), .int .u64 (a4 : Int), .bool b5, .bool b6] 24)
  have H2 := Lib.hid h2
  have H3 := Lib.hid h3
  have H4 := Lib.hid h4
  generalize hitB a0 a1 a2 a3 a4 b5 b6 = f at *
  obtain ⟨Q, hQ⟩ : ∃ Q, RNextGives f m w = Q := ⟨_, rfl⟩
  rw [hQ]
  have HQ := Lib.hid hQ
  clear hQ h0 h1 h2 h3 h4
  go_enter Tryz.func38, Tryz.ntmps38
  go_wp2_with fail
  go_loopw [1] (fun s1 wr => ∃ c : Int, s1 = .int .i64 c ∧ m ≤ c ∧ c ≤ 68374080 ∧ Hid (NoneIn f m c) ∧ Hid (BX w wr #[.int .u64 (a0 : Int), .int .u64 (a1 : Int), .int .u64 (a2 : Int), .int .u64 (a3 : Int), .int .u64 (a4 : Int), .bool b5, .bool b6])) (fun s1 _ => (68374080 - intOf s1).toNat)
  case atStart => exact ⟨m, rfl, Int.le_refl _, hm2, fun j h1 h2 => absurd h2 (by omega), HX⟩
  case round =>
    obtain ⟨c, rfl, hc1, hc2, HN, HX⟩ := hrel
    by_cases hlt : c < 68374080
    · have cx := HX.out.cells
      have lx := HX.out.lt
      have r3 : 0 ≤ c / 1440 := by omega
      have HC := Lib.hid (fun W => rcivil_any (c / 1440) W (by omega) (by omega))
      have q2 := bit_is1 a2 ((civN (c / 1440)).2 + 1) H2.out
      have q3 := bit_is0 a3 (civN (c / 1440)).1 H3.out
      have q4 := bit_is1 a4 ((c / 1440 + 4) % 7).toNat H4.out
      have r4 : 0 ≤ (c / 1440 + 4) % 7 := by omega
      have hcr := civ_range (d := c / 1440) (by omega) (by omega)
      obtain ⟨hmo, hda⟩ := hcr
      have hdb : dayB a2 a3 a4 b5 b6 (c / 1440) = (a3.testBit (civN (c / 1440)).1 && fitB (a2.testBit ((civN (c / 1440)).2 + 1)) (a4.testBit ((c / 1440 + 4) % 7).toNat) b5 b6) := rfl
      have HNd := Lib.hid (HDN.out c)
      generalize dayB a2 a3 a4 b5 b6 (c / 1440) = dayb at *
      generalize a2.testBit ((civN (c / 1440)).2 + 1) = D at *
      generalize a3.testBit (civN (c / 1440)).1 = M at *
      generalize a4.testBit ((c / 1440 + 4) % 7).toNat = Wk at *
      unfold RCivGives at HC
      generalize (civN (c / 1440)).1 = mo at *
      generalize (civN (c / 1440)).2 = da at *
      have HDB := Lib.hid hdb
      clear hdb
      go_wp2_with fail
      refine (HC.out _).mono ?_
      rintro e w2 ⟨rfl, hb2⟩
      have HX2 := Lib.hid (HX.out.keep hb2)
      clear cx lx hb2 HX HC
      have cx := HX2.out.cells
      have lx := HX2.out.lt
      go_wp2_with fail
      go_quiet (fail)
      have HX3 : Hid (BX w (w2.drewN nq) #[.int .u64 (a0 : Int), .int .u64 (a1 : Int), .int .u64 (a2 : Int), .int .u64 (a3 : Int), .int .u64 (a4 : Int), .bool b5, .bool b6]) := Lib.hid ⟨below_drewN HX2.out.below nq, HX2.out.cells, HX2.out.lt⟩
      generalize w2.drewN nq = w3 at *
      clear cx lx HX2 q2 q4
      have cx := HX3.out.cells
      have lx := HX3.out.lt
      go_upto_region 4 with fail
      go_cut [10] (fun s10 wx => s10 = .bool (D && Wk) ∧ wx = w3)
      case first =>
        cases D
        all_goals
          go_wp2_with fail
          go_meet
          exact ⟨by simp, rfl⟩
      case rest =>
        obtain ⟨rfl, rfl⟩ := hcut
        go_upto_region 5 with fail
        go_cut [43] (fun s43 wx => s43 = .bool (!b5 && !b6) ∧ wx = wc)
        case first =>
          cases b5
          all_goals
            go_wp2_with fail
            go_meet
            exact ⟨by simp, rfl⟩
        case rest =>
          obtain ⟨rfl, rfl⟩ := hcut
          go_upto_if 43 with fail
          go_cut [10] (fun s10 wx => s10 = .bool (fitB D Wk b5 b6) ∧ wx = wc)
          case first =>
            cases b5 <;> cases b6 <;> cases D
            all_goals
              go_wp2_with fail
              go_meet
              exact ⟨by simp [fitB], rfl⟩
          case rest =>
            obtain ⟨rfl, rfl⟩ := hcut
            generalize fitB D Wk b5 b6 = F at *
            have HDB2 := Lib.hid (show dayb = (M && F) from HDB.out)
            cases M with
            | false =>
              have HNx := Lib.hid (none_step HN.out (HNd.out HDB2.out))
              have e1 : IntKind.i64.wrap (c / 1440 + 1) = c / 1440 + 1 := IntWalk.i64_in _ (by omega)
              have hb1 : c < (c / 1440 + 1) * 1440 ∧ (c / 1440 + 1) * 1440 ≤ 68374080 := by omega
              clear HDB HDB2 HNd HN
              go_wp2_with fail
              exact ⟨⟨_, rfl, by omega, by omega, HNx, HX3⟩, by simp [intOf]; omega⟩
            | true =>
              cases F with
              | false =>
                have HNx := Lib.hid (none_step HN.out (HNd.out HDB2.out))
                have hb1 : c < (c / 1440 + 1) * 1440 ∧ (c / 1440 + 1) * 1440 ≤ 68374080 := by omega
                clear HDB HDB2 HNd HN
                go_wp2_with fail
                exact ⟨⟨_, rfl, by omega, by omega, HNx, HX3⟩, by simp [intOf]; omega⟩
              | true =>
                have HFc := Lib.hid (fun W => HF.out c W (by omega) hlt)
                obtain ⟨fc, hfc⟩ : ∃ fc, f c = fc := ⟨_, rfl⟩
                have HFe := Lib.hid hfc
                rw [hfc] at HFc
                clear hfc HDB HDB2 HNd
                go_wp2_with fail
                refine (HFc.out _).mono ?_
                rintro e w5 ⟨rfl, hb5⟩
                have HX5 := Lib.hid (HX3.out.keep hb5)
                clear hb5 cx lx HX3
                cases fc with
                | true =>
                  go_wp2_with fail
                  rw [← HQ.out]
                  exact ⟨some c, ⟨hc1, hlt, HFe.out, HN.out⟩, rfl, HX5.out.below⟩
                | false =>
                  have HNx := Lib.hid (none_step (c' := c + 1) HN.out (fun j h1 h2 => by rw [show j = c by omega]; exact HFe.out))
                  go_wp2_with fail
                  exact ⟨⟨c + 1, rfl, by omega, by omega, HNx, HX5⟩, by simp [intOf]; omega⟩
    · have hce : c = 68374080 := by omega
      have HXb := Lib.hid HX.out.below
      have HNn := Lib.hid (show LeastAt f m 68374080 none from by rw [← hce]; exact HN.out)
      have hle : ¬ c ≤ 68374079 := by omega
      clear hce HN HX
      go_wp2_with fail
      rw [← HQ.out]
      exact ⟨none, HNn.out, rfl, HXb.out⟩

end Go.Proofs.YtlhaidibcocooaaGreatDoor

namespace Go.Proofs.YtlhaidibcocooaaGreatDoor
open Go.RowKit Go.Shelf

def tzRen : Ren := ⟨fun | 29 => 71 | n => n, fun | 25 => 79 | 54 => 158 | 0 => 0 | 3 => 3 | 4 => 4 | 5 => 5 | 22 => 22 | n => n, fun | 1 => 0 | n => n⟩
theorem tzLays : Lays7.n29 Tryz.prog tzRen := {
  mixed := by kernel_rfl
  f29 := Tryz.func71.trans (congrArg some (by kernel_rfl))
  t0 := Tryz.underlying0
  a0 := Tryz.isAgg0
  z0 := Tryz.sizeOf0
  v0 := Tryz.zeroValue0
  i0 := by kernel_rfl
  t3 := Tryz.underlying3
  a3 := Tryz.isAgg3
  z3 := Tryz.sizeOf3
  v3 := Tryz.zeroValue3
  i3 := by kernel_rfl
  t4 := Tryz.underlying4
  a4 := Tryz.isAgg4
  z4 := Tryz.sizeOf4
  v4 := Tryz.zeroValue4
  i4 := by kernel_rfl
  t5 := Tryz.underlying5
  a5 := Tryz.isAgg5
  z5 := Tryz.sizeOf5
  v5 := Tryz.zeroValue5
  i5 := by kernel_rfl
  t22 := Tryz.underlying22
  a22 := Tryz.isAgg22
  z22 := Tryz.sizeOf22
  v22 := Tryz.zeroValue22
  i22 := by kernel_rfl
  t25 := Tryz.underlying79
  a25 := Tryz.isAgg79
  z25 := Tryz.sizeOf79
  v25 := Tryz.zeroValue79
  i25 := by kernel_rfl
  t54 := Tryz.underlying158
  a54 := Tryz.isAgg158
  z54 := Tryz.sizeOf158
  g1 := by kernel_rfl }
/-- the table that TrailingZeros64 reads -/
def DebAt (w : World) : Prop := TabAt 0 Lib.deBruijn64tab w
theorem DebAt.keep {w w' : World} (h : DebAt w) (hb : Below w.heap.size w w') : DebAt w' := fun j hj => by
  have h1 := h j hj
  exact (hb.cell (p := ⟨_, j, none⟩) (World.block_lt_of_cell? w _ h1)).trans h1
theorem tz_any (x : Nat) (hx : x < 18446744073709551616) (w : World) (hT : DebAt w) : Calls Tryz.prog 71 #[.int .u64 (x : Int)] w fun e w' => e = .returned (.int .i64 (Lib.ctz 64 x : Nat)) ∧ w' = w :=
  Any7.bits_TrailingZeros64 tzLays x hx w (fun _ => hT)
/-- the lowest bit of a set that is not empty -/
theorem ctz_bit {x : Nat} (h0 : x ≠ 0) (h : x < 18446744073709551616) : x.testBit (Lib.ctz 64 x) = true ∧ ∀ j, j < Lib.ctz 64 x → x.testBit j = false := by
  have hc : Lib.ctz 64 x = Lib.ctzFrom 64 x := by unfold Lib.ctz; rw [if_neg h0]
  rw [hc]
  obtain ⟨m, hm, _⟩ := Lib.ctzFrom_spec 64 x (by omega) h
  generalize Lib.ctzFrom 64 x = k at *
  subst hm
  refine ⟨?_, fun j hj => ?_⟩
  · rw [Nat.testBit_eq_decide_div_mod_eq, Nat.mul_div_cancel_left _ (Nat.two_pow_pos k)]
    simp
  · rw [Nat.testBit_eq_decide_div_mod_eq]
    have : 2 ^ k = 2 ^ j * 2 ^ (k - j) := by rw [← Nat.pow_add]; congr 1; omega
    rw [this, Nat.mul_assoc, Nat.mul_div_cancel_left _ (Nat.two_pow_pos j)]
    have h2 : 2 ^ (k - j) = 2 * 2 ^ (k - j - 1) := by rw [← Nat.pow_succ']; congr 1; omega
    rw [h2, Nat.mul_assoc]
    simp

set_option maxHeartbeats 800000 in
theorem yearBegin_any (y : Int) (w : World) (h1 : 1 ≤ y) (h2 : y ≤ 9999) : Calls Tryz.prog 42 #[.int .i64 y] w fun e w' => e = .returned (.int .i64 (dnN y * 1440)) ∧ Below w.heap.size w w' := by
  have HD := Lib.hid (fun W => day_jan y W h1 h2)
  have hd : -800000 ≤ dnN y ∧ dnN y ≤ 4000000 := by have := yb_range h1 (show y ≤ 10000 by omega); unfold dnN; omega
  generalize dnN y = dn at *
  go_enter Tryz.func42, Tryz.ntmps42
  go_wp2_with fail
  refine (HD.out _).mono ?_
  rintro e w2 ⟨rfl, hb⟩
  have HB := Lib.hid hb
  clear hb
  go_wp2_with fail
  go_ret
  exact ⟨rfl, HB.out⟩
theorem begin_2000 (w : World) : Calls Tryz.prog 42 #[.int .i64 2000] w fun e w' => e = .returned (.int .i64 15778080) ∧ Below w.heap.size w w' := by
  have := yearBegin_any 2000 w (by decide) (by decide)
  rw [dn_2000] at this
  exact this
theorem begin_2100 (w : World) : Calls Tryz.prog 42 #[.int .i64 2100] w fun e w' => e = .returned (.int .i64 68374080) ∧ Below w.heap.size w w' := by
  have := yearBegin_any 2100 w (by decide) (by decide)
  rw [dn_2100] at this
  exact this
set_option maxHeartbeats 800000 in
theorem bwithin_any (n low high : Int) (w : World) : Calls Tryz.prog 41 #[.int .i64 n, .int .i64 low, .int .i64 high] w fun e w' => e = .returned (.bool (decide (low ≤ n ∧ n ≤ high))) ∧ w = w' := by
  by_cases h1 : low ≤ n
  · by_cases h2 : n ≤ high
    · have hd : decide (low ≤ n ∧ n ≤ high) = true := by simp [h1, h2]
      rw [hd]
      clear hd
      go_enter Tryz.func41, Tryz.ntmps41
      go_wp2
      go_ret
      exact ⟨rfl, rfl⟩
    · have hd : decide (low ≤ n ∧ n ≤ high) = false := by simp [h2]
      rw [hd]
      have hd2 : decide (n ≤ high) = false := by simpa using h2
      clear hd
      go_enter Tryz.func41, Tryz.ntmps41
      go_wp2
      go_ret
      exact ⟨rfl, rfl⟩
  · have hd : decide (low ≤ n ∧ n ≤ high) = false := by simp [h1]
    rw [hd]
    have hd2 : decide (low ≤ n) = false := by simpa using h1
    clear hd
    go_enter Tryz.func41, Tryz.ntmps41
    go_wp2
    go_ret
    exact ⟨rfl, rfl⟩
set_option maxHeartbeats 800000 in
theorem inYears_any (m : Int) (w : World) : Calls Tryz.prog 36 #[.int .i64 m] w fun e w' => e = .returned (.bool (decide (15778080 ≤ m ∧ m ≤ 68374079))) ∧ Below w.heap.size w w' := by
  obtain ⟨R, hR⟩ : ∃ R, decide (15778080 ≤ m ∧ m ≤ 68374079) = R := ⟨_, rfl⟩
  have HW := Lib.hid (fun W => bwithin_any m 15778080 68374079 W)
  rw [hR] at HW
  rw [hR]
  clear hR
  go_enter Tryz.func36, Tryz.ntmps36
  go_wp2_with fail
  refine (begin_2000 _).mono ?_
  rintro e w2 ⟨rfl, hb⟩
  have HB := Lib.hid hb
  clear hb
  go_wp2_with fail
  refine (begin_2100 _).mono ?_
  rintro e w3 ⟨rfl, hb⟩
  have HB3 := Lib.hid (HB.out.trans (hb.mono HB.out.size))
  clear hb
  go_wp2_with fail
  refine (HW.out _).mono ?_
  rintro e w4 ⟨rfl, rfl⟩
  go_wp2_with fail
  go_ret
  exact ⟨rfl, HB3.out⟩

end Go.Proofs.YtlhaidibcocooaaGreatDoor

namespace Go.Proofs.YtlhaidibcocooaaGreatDoor
open Go.RowKit

set_option maxRecDepth 100000 in
set_option maxHeartbeats 6400000 in
theorem fitsDay_any (a0 a1 a2 a3 a4 : Nat) (b5 b6 : Bool) (d : Int) (w : World) (h2 : a2 < 18446744073709551616) (h3 : a3 < 18446744073709551616) (h4 : a4 < 18446744073709551616) (hd1 : 10957 ≤ d) (hd2 : d < 47482) :
    Calls Tryz.prog 70 #[.agg #[.int .u64 (a0 : Int), .int .u64 (a1 : Int), .int .u64 (a2 : Int), .int .u64 (a3 : Int), .int .u64 (a4 : Int), .bool b5, .bool b6], .int .i64 d] w fun e w' => e = .returned (.bool (dayB a2 a3 a4 b5 b6 d)) ∧ Below w.heap.size w w' := by
  have HX := Lib.hid (BX.start w #[.int .u64 (a0 : Int), .int .u64 (a1 : Int), .int .u64 (a2 : Int), .int .u64 (a3 : Int), .int .u64 (a4 : Int), .bool b5, .bool b6] 24)
  have HC := Lib.hid (fun W => Civil_any d W hd1 hd2)
  obtain ⟨hmo, hda⟩ := civ_range hd1 hd2
  have q2 := bit_is1 a2 ((civN d).2 + 1) h2
  have q3 := bit_is1 a3 (civN d).1 h3
  have q4 := bit_is1 a4 ((d + 11) % 7).toNat h4
  have r4 : 0 ≤ (d + 11) % 7 := by omega
  have hdb : dayB a2 a3 a4 b5 b6 d = (a3.testBit (civN d).1 && fitB (a2.testBit ((civN d).2 + 1)) (a4.testBit ((d + 11) % 7).toNat) b5 b6) := by
    unfold dayB bitW
    rw [show (d + 11) % 7 = (d + 4) % 7 by omega]
  generalize dayB a2 a3 a4 b5 b6 d = R at *
  generalize a2.testBit ((civN d).2 + 1) = D at *
  generalize a3.testBit (civN d).1 = M at *
  generalize a4.testBit ((d + 11) % 7).toNat = Wk at *
  generalize (civN d).1 = mo at *
  generalize (civN d).2 = da at *
  have HR := Lib.hid hdb.symm
  clear hdb h2 h3 h4
  go_enter Tryz.func70, Tryz.ntmps70
  go_wp2_with fail
  refine (HC.out _).mono ?_
  rintro e w2 ⟨y, rfl, hb2⟩
  have HX2 := Lib.hid (HX.out.keep hb2)
  clear hb2 HX
  have cx := HX2.out.cells
  have lx := HX2.out.lt
  go_wp2_with fail
  go_quiet (fail)
  have HX3 : Hid (Below w.heap.size w (w2.drewN nq)) := Lib.hid (below_drewN HX2.out.below nq)
  have cx3 : ∀ j, (w2.drewN nq).cell? ⟨w.heap.size, j, none⟩ = _ := cx
  have lx3 : w.heap.size < (w2.drewN nq).heap.size := lx
  generalize w2.drewN nq = w3 at *
  clear cx lx q2 q4
  cases b5 <;> cases b6 <;> cases D <;> cases Wk
  all_goals
    go_wp2_with fail
    go_ret
    exact ⟨ret_bool (by rw [← HR.out]; simp [fitB]), HX3.out⟩

variable {a0 a1 a2 a3 a4 : Nat} {b5 b6 : Bool} {c : Int}
theorem hour_none_h (_hc : 0 ≤ c) (h : a1.testBit (c % 1440 / 60).toNat = false) : ∀ j, c ≤ j → j < c / 1440 * 1440 + (c % 1440 / 60 + 1) * 60 → hitB a0 a1 a2 a3 a4 b5 b6 j = false := fun j h1 h2 => by
  have e : j / 60 % 24 = c % 1440 / 60 := by omega
  unfold hitB
  rw [e, h]
  simp
theorem hour_none_m (_hc : 0 ≤ c) (h : a0 / 2 ^ (c % 60).toNat = 0) : ∀ j, c ≤ j → j < c / 1440 * 1440 + (c % 1440 / 60 + 1) * 60 → hitB a0 a1 a2 a3 a4 b5 b6 j = false := fun j h1 h2 => by
  have e : (j % 60).toNat = ((j % 60).toNat - (c % 60).toNat) + (c % 60).toNat := by omega
  have hb : a0.testBit (j % 60).toNat = false := by
    rw [e, ← Nat.testBit_div_two_pow, h]
    simp
  unfold hitB
  rw [hb]
  simp
theorem due_hit (_hc : 0 ≤ c) (ha : a0 < 1152921504606846976) (hl : a0 / 2 ^ (c % 60).toNat ≠ 0) (hh : a1.testBit (c % 1440 / 60).toNat = true) (hd : dayB a2 a3 a4 b5 b6 (c / 1440) = true) :
    (c % 60).toNat + Lib.ctz 64 (a0 / 2 ^ (c % 60).toNat) < 60 ∧ hitB a0 a1 a2 a3 a4 b5 b6 (c + (Lib.ctz 64 (a0 / 2 ^ (c % 60).toNat) : Nat)) = true ∧ ∀ j, c ≤ j → j < c + (Lib.ctz 64 (a0 / 2 ^ (c % 60).toNat) : Nat) → hitB a0 a1 a2 a3 a4 b5 b6 j = false := by
  have hlt : a0 / 2 ^ (c % 60).toNat < 18446744073709551616 := Nat.lt_of_le_of_lt (Nat.div_le_self _ _) (by omega)
  obtain ⟨t1, t2⟩ := ctz_bit hl hlt
  generalize hk : Lib.ctz 64 (a0 / 2 ^ (c % 60).toNat) = k at *
  rw [Nat.testBit_div_two_pow, Nat.add_comm] at t1
  have hlim : (c % 60).toNat + k < 60 := by
    by_cases h : (c % 60).toNat + k < 60
    · exact h
    · have hz := Nat.testBit_lt_two_pow (x := a0) (i := (c % 60).toNat + k) (Nat.lt_of_lt_of_le ha (by
        have : (1152921504606846976 : Nat) = 2 ^ 60 := by decide
        rw [this]
        exact Nat.pow_le_pow_right (by decide) (by omega)))
      rw [hz] at t1
      cases t1
  refine ⟨hlim, ?_, fun j h1 h2 => ?_⟩
  · unfold hitB
    rw [show (c + (k : Int)) / 1440 = c / 1440 by omega, hd, show (c + (k : Int)) / 60 % 24 = c % 1440 / 60 by omega, hh, show ((c + (k : Int)) % 60).toNat = (c % 60).toNat + k by omega, t1]
    rfl
  · have e : (j % 60).toNat = (j - c).toNat + (c % 60).toNat := by omega
    have hb : a0.testBit (j % 60).toNat = false := by
      rw [e, ← Nat.testBit_div_two_pow]
      exact t2 _ (by omega)
    unfold hitB
    rw [hb]
    simp
def dueV (r : Option Int) : Value := match r with
  | some n => .tuple #[.int .i64 n, .bool true]
  | none => .tuple #[.int .i64 0, .bool false]
def DueGives (f : Int → Bool) (m : Int) (w : World) (e : Ending) (w' : World) : Prop := ∃ r : Option Int, LeastAt f m 68374080 r ∧ e = .returned (dueV r) ∧ Below w.heap.size w w'

end Go.Proofs.YtlhaidibcocooaaGreatDoor

namespace Go.Proofs.YtlhaidibcocooaaGreatDoor
open Go.RowKit

set_option maxRecDepth 100000 in
set_option maxHeartbeats 6400000 in
theorem due_any (a0 a1 a2 a3 a4 : Nat) (b5 b6 : Bool) (m : Int) (w : World) (h0 : a0 < 1152921504606846976) (h1 : a1 < 18446744073709551616) (h2 : a2 < 18446744073709551616) (h3 : a3 < 18446744073709551616) (h4 : a4 < 18446744073709551616) (hm1 : 15778080 ≤ m) (hm2 : m ≤ 68374080) (hT : DebAt w) :
    Calls Tryz.prog 37 #[.agg #[.int .u64 (a0 : Int), .int .u64 (a1 : Int), .int .u64 (a2 : Int), .int .u64 (a3 : Int), .int .u64 (a4 : Int), .bool b5, .bool b6], .int .i64 m] w (DueGives (hitB a0 a1 a2 a3 a4 b5 b6) m w) := by
  have HF := Lib.hid (fun d W hd1 hd2 => fitsDay_any a0 a1 a2 a3 a4 b5 b6 d W h2 h3 h4 hd1 hd2)
  have HX := Lib.hid (BX.start w #[.int .u64 (a0 : Int), .int .u64 (a1 : Int), .int .u64 (a2 : Int), .int .u64 (a3 : Int), .int .u64 (a4 : Int), .bool b5, .bool b6] 24)
  have H0 := Lib.hid h0
  have H1 := Lib.hid h1
  have HT := Lib.hid hT
  obtain ⟨f, hf⟩ : ∃ f, hitB a0 a1 a2 a3 a4 b5 b6 = f := ⟨_, rfl⟩
  rw [hf]
  have HFF := Lib.hid hf
  obtain ⟨Q, hQ⟩ : ∃ Q, DueGives f m w = Q := ⟨_, rfl⟩
  rw [hQ]
  have HQ := Lib.hid hQ
  clear hQ h0 h1 h2 h3 h4 hf hT
  go_enter Tryz.func37, Tryz.ntmps37
  go_wp2_with fail
  refine (begin_2100 _).mono ?_
  rintro e w1 ⟨rfl, hb1⟩
  have HX1 := Lib.hid (HX.out.keep hb1)
  clear hb1 HX
  go_wp2_with fail
  go_loopw [1] (fun s1 wr => ∃ c : Int, s1 = .int .i64 c ∧ m ≤ c ∧ c ≤ 68374080 ∧ Hid (NoneIn f m c) ∧ Hid (BX w wr #[.int .u64 (a0 : Int), .int .u64 (a1 : Int), .int .u64 (a2 : Int), .int .u64 (a3 : Int), .int .u64 (a4 : Int), .bool b5, .bool b6])) (fun s1 _ => (68374080 - intOf s1).toNat)
  case atStart => exact ⟨m, rfl, Int.le_refl _, hm2, fun j h1 h2 => absurd h2 (by omega), HX1⟩
  case round =>
    clear HX1
    obtain ⟨c, rfl, hc1, hc2, HN, HX⟩ := hrel
    by_cases hlt : c < 68374080
    · have cx := HX.out.cells
      have lx := HX.out.lt
      have r1 : 0 ≤ c / 1440 := by omega
      have r2 : 0 ≤ c % 1440 := by omega
      have r3 : 0 ≤ c % 1440 / 60 := by omega
      have r4 : 0 ≤ c % 60 := by omega
      have hdl : (a0 : Int) / (2 : Int) ^ (c % 60).toNat = ((a0 / 2 ^ (c % 60).toNat : Nat) : Int) := by norm_cast
      have q1 := bit_is0 a1 (c % 1440 / 60).toNat H1.out
      have HLT := Lib.hid (show a0 / 2 ^ (c % 60).toNat < 18446744073709551616 from Nat.lt_of_le_of_lt (Nat.div_le_self _ _) (by have := H0.out; omega))
      have HDH := Lib.hid (fun hl hh hd => @due_hit a0 a1 a2 a3 a4 b5 b6 c (by omega) H0.out hl hh hd)
      have HNH := Lib.hid (fun h => @hour_none_h a0 a1 a2 a3 a4 b5 b6 c (by omega) h)
      have HNM := Lib.hid (fun h => @hour_none_m a0 a1 a2 a3 a4 b5 b6 c (by omega) h)
      have HND := Lib.hid (fun h => @day_none a0 a1 a2 a3 a4 b5 b6 c h)
      rw [HFF.out] at HDH HNH HNM HND
      have HFd := Lib.hid (fun W => HF.out (c / 1440) W (by omega) (by omega))
      generalize dayB a2 a3 a4 b5 b6 (c / 1440) = dayb at *
      generalize a1.testBit (c % 1440 / 60).toNat = hb at *
      generalize a0 / 2 ^ (c % 60).toNat = lt at *
      go_wp2_with fail
      refine (HFd.out _).mono ?_
      rintro e w2 ⟨rfl, hb2⟩
      have HX2 := Lib.hid (HX.out.keep hb2)
      clear cx lx hb2 HX hdl
      have cx := HX2.out.cells
      have lx := HX2.out.lt
      cases dayb with
      | false =>
        have HNx := Lib.hid (none_step HN.out (HND.out rfl))
        have hb1 : c < (c / 1440 + 1) * 1440 ∧ (c / 1440 + 1) * 1440 ≤ 68374080 := by omega
        clear HDH HNH HNM HND HN q1
        go_wp2_with fail
        exact ⟨⟨_, rfl, by omega, by omega, HNx, HX2⟩, by simp [intOf]; omega⟩
      | true =>
        have hb1 : c < c / 1440 * 1440 + (c % 1440 / 60 + 1) * 60 ∧ c / 1440 * 1440 + (c % 1440 / 60 + 1) * 60 ≤ 68374080 := by omega
        cases hb with
        | false =>
          have HNx := Lib.hid (none_step HN.out (HNH.out rfl))
          clear HDH HNH HNM HND HN
          go_wp2_with fail
          exact ⟨⟨_, rfl, by omega, by omega, HNx, HX2⟩, by simp [intOf]; omega⟩
        | true =>
          by_cases hz : lt = 0
          · have HNx := Lib.hid (none_step HN.out (HNM.out hz))
            subst hz
            clear HDH HNH HNM HND HN
            go_wp2_with fail
            exact ⟨⟨_, rfl, by omega, by omega, HNx, HX2⟩, by simp [intOf]; omega⟩
          · obtain ⟨d1, d2, d3⟩ := HDH.out hz rfl rfl
            have HTz := Lib.hid (fun W hW => tz_any lt HLT.out W hW)
            have hne : ((lt : Int) == 0) = false := by rw [beq_eq_false_iff_ne]; omega
            generalize Lib.ctz 64 lt = k at *
            have HD2 := Lib.hid d2
            have HD3 := Lib.hid (none_step HN.out d3)
            have hk : k < 60 := by omega
            have hn : c + (k : Int) < 68374080 := by omega
            clear HDH HNH HNM HND HN d2 d3 hz
            go_wp2_with fail
            refine (HTz.out _ (HT.out.keep HX2.out.below)).mono ?_
            rintro e w3 ⟨rfl, rfl⟩
            go_wp2_with fail
            rw [← HQ.out]
            exact ⟨some (c + k), ⟨by omega, hn, HD2.out, HD3.out⟩, rfl, HX2.out.below⟩
    · have hce : c = 68374080 := by omega
      have HXb := Lib.hid HX.out.below
      have HNn := Lib.hid (show LeastAt f m 68374080 none from by rw [← hce]; exact HN.out)
      clear hce HN HX
      go_wp2_with fail
      rw [← HQ.out]
      exact ⟨none, HNn.out, rfl, HXb.out⟩

end Go.Proofs.YtlhaidibcocooaaGreatDoor
