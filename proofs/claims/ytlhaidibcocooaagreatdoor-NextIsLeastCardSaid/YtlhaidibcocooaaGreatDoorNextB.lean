/- Times: the reference's nextTime tells the least minute that fits. -/
import Derived.Test.YtlhaidibcocooaaGreatDoorNextA
import Derived.Deep.DeepCutAuto
namespace Go.Proofs.YtlhaidibcocooaaGreatDoor
open Go.RowKit

/-- the least number from m on, below e, at which f holds -/
def LeastAt (f : Int → Bool) (m e : Int) : Option Int → Prop
  | some n => m ≤ n ∧ n < e ∧ f n = true ∧ ∀ j, m ≤ j → j < n → f j = false
  | none => ∀ j, m ≤ j → j < e → f j = false
theorem least_unique {f : Int → Bool} {m e : Int} {a b : Option Int} (ha : LeastAt f m e a) (hb : LeastAt f m e b) : a = b := by
  cases a with
  | none =>
    cases b with
    | none => rfl
    | some n => have := ha n hb.1 hb.2.1; rw [hb.2.2.1] at this; cases this
  | some n =>
    cases b with
    | none => have := hb n ha.1 ha.2.1; rw [ha.2.2.1] at this; cases this
    | some k =>
      have h1 : ¬ n < k := fun h => by have := hb.2.2.2 n ha.1 h; rw [ha.2.2.1] at this; cases this
      have h2 : ¬ k < n := fun h => by have := ha.2.2.2 k hb.1 h; rw [hb.2.2.1] at this; cases this
      congr 1
      omega
/-- no minute fits from m up to c -/
def NoneIn (f : Int → Bool) (m c : Int) : Prop := ∀ j, m ≤ j → j < c → f j = false
theorem none_step {f : Int → Bool} {m c c' : Int} (h : NoneIn f m c) (h2 : ∀ j, c ≤ j → j < c' → f j = false) : NoneIn f m c' := fun j h1 h3 => by
  by_cases hj : j < c
  · exact h j h1 hj
  · exact h2 j (by omega) h3
theorem day_none {a0 a1 a2 a3 a4 : Nat} {b5 b6 : Bool} {c : Int} (h : dayB a2 a3 a4 b5 b6 (c / 1440) = false) : ∀ j, c ≤ j → j < (c / 1440 + 1) * 1440 → hitB a0 a1 a2 a3 a4 b5 b6 j = false := fun j h1 h2 => by
  have : j / 1440 = c / 1440 := by omega
  unfold hitB
  rw [this, h]
  simp
def RNextGives (f : Int → Bool) (m : Int) (w : World) (e : Ending) (w' : World) : Prop := ∃ r : Option Int, LeastAt f m 68374080 r ∧ e = .returned (.int .i64 (r.getD (-1))) ∧ Below w.heap.size w w'

set_option maxRecDepth 100000 in
set_option maxHeartbeats 6400000 in
theorem rnext_any (a0 a1 a2 a3 a4 : Nat) (b5 b6 : Bool) (m : Int) (w : World) (h0 : a0 < 18446744073709551616) (h1 : a1 < 18446744073709551616) (h2 : a2 < 18446744073709551616) (h3 : a3 < 18446744073709551616) (h4 : a4 < 18446744073709551616) (hm1 : 15778080 ≤ m) (hm2 : m ≤ 68374080) :
    Calls Tryz.prog 38 #[.agg #[.int .u64 (a0 : Int), .int .u64 (a1 : Int), .int .u64 (a2 : Int), .int .u64 (a3 : Int), .int .u64 (a4 : Int), .bool b5, .bool b6], .int .i64 m] w (RNextGives (hitB a0 a1 a2 a3 a4 b5 b6) m w) := by
  have HF := Lib.hid (fun c W hc1 hc2 => rfits_any a0 a1 a2 a3 a4 b5 b6 c W h0 h1 h2 h3 h4 hc1 hc2)
  have HDN := Lib.hid (fun c hc => @day_none a0 a1 a2 a3 a4 b5 b6 c hc)
  have HX := Lib.hid (BX.start w #[.int .u64 (a0 : Int), .int .u64 (a1 : Int), .int .u64 (a2 : Int), .int .u64 (a3 : Int), .int .u64 (a4 : Int), .bool b5, .bool b6] 24)
  have H2 := Lib.hid h2
  have H3 := Lib.hid h3
  have H4 := Lib.hid h4
  generalize hitB a0 a1 a2 a3 a4 b5 b6 = f at *
  obtain ⟨Q, hQ⟩ : ∃ Q, RNextGives f m w = Q := ⟨_, rfl⟩
  rw [hQ]
  have HQ := Lib.hid hQ
  clear hQ h0 h1 h2 h3 h4
  go_enter Tryz.func38, Tryz.ntmps38
  go_wp2_with fail
  go_loopw [1] (fun s1 wr => ∃ c : Int, s1 = .int .i64 c ∧ m ≤ c ∧ c ≤ 68374080 ∧ Hid (NoneIn f m c) ∧ Hid (BX w wr #[.int .u64 (a0 : Int), .int .u64 (a1 : Int), .int .u64 (a2 : Int), .int .u64 (a3 : Int), .int .u64 (a4 : Int), .bool b5, .bool b6])) (fun s1 _ => (68374080 - intOf s1).toNat)
  case atStart => exact ⟨m, rfl, Int.le_refl _, hm2, fun j h1 h2 => absurd h2 (by omega), HX⟩
  case round =>
    obtain ⟨c, rfl, hc1, hc2, HN, HX⟩ := hrel
    by_cases hlt : c < 68374080
    · have cx := HX.out.cells
      have lx := HX.out.lt
      have r3 : 0 ≤ c / 1440 := by omega
      have HC := Lib.hid (fun W => rcivil_any (c / 1440) W (by omega) (by omega))
      have q2 := bit_is1 a2 ((civN (c / 1440)).2 + 1) H2.out
      have q3 := bit_is0 a3 (civN (c / 1440)).1 H3.out
      have q4 := bit_is1 a4 ((c / 1440 + 4) % 7).toNat H4.out
      have r4 : 0 ≤ (c / 1440 + 4) % 7 := by omega
      have hcr := civ_range (d := c / 1440) (by omega) (by omega)
      obtain ⟨hmo, hda⟩ := hcr
      have hdb : dayB a2 a3 a4 b5 b6 (c / 1440) = (a3.testBit (civN (c / 1440)).1 && fitB (a2.testBit ((civN (c / 1440)).2 + 1)) (a4.testBit ((c / 1440 + 4) % 7).toNat) b5 b6) := rfl
      have HNd := Lib.hid (HDN.out c)
      generalize dayB a2 a3 a4 b5 b6 (c / 1440) = dayb at *
      generalize a2.testBit ((civN (c / 1440)).2 + 1) = D at *
      generalize a3.testBit (civN (c / 1440)).1 = M at *
      generalize a4.testBit ((c / 1440 + 4) % 7).toNat = Wk at *
      unfold RCivGives at HC
      generalize (civN (c / 1440)).1 = mo at *
      generalize (civN (c / 1440)).2 = da at *
      have HDB := Lib.hid hdb
      clear hdb
      go_wp2_with fail
      refine (HC.out _).mono ?_
      rintro e w2 ⟨rfl, hb2⟩
      have HX2 := Lib.hid (HX.out.keep hb2)
      clear cx lx hb2 HX HC
      have cx := HX2.out.cells
      have lx := HX2.out.lt
      go_wp2_with fail
      go_quiet (fail)
      have HX3 : Hid (BX w (w2.drewN nq) #[.int .u64 (a0 : Int), .int .u64 (a1 : Int), .int .u64 (a2 : Int), .int .u64 (a3 : Int), .int .u64 (a4 : Int), .bool b5, .bool b6]) := Lib.hid ⟨below_drewN HX2.out.below nq, HX2.out.cells, HX2.out.lt⟩
      generalize w2.drewN nq = w3 at *
      clear cx lx HX2 q2 q4
      have cx := HX3.out.cells
      have lx := HX3.out.lt
      go_upto_region 4 with fail
      go_cut [10] (fun s10 wx => s10 = .bool (D && Wk) ∧ wx = w3)
      case first =>
        cases D
        all_goals
          go_wp2_with fail
          go_meet
          exact ⟨by simp, rfl⟩
      case rest =>
        obtain ⟨rfl, rfl⟩ := hcut
        go_upto_region 5 with fail
        go_cut [43] (fun s43 wx => s43 = .bool (!b5 && !b6) ∧ wx = wc)
        case first =>
          cases b5
          all_goals
            go_wp2_with fail
            go_meet
            exact ⟨by simp, rfl⟩
        case rest =>
          obtain ⟨rfl, rfl⟩ := hcut
          go_upto_if 43 with fail
          go_cut [10] (fun s10 wx => s10 = .bool (fitB D Wk b5 b6) ∧ wx = wc)
          case first =>
            cases b5 <;> cases b6 <;> cases D
            all_goals
              go_wp2_with fail
              go_meet
              exact ⟨by simp [fitB], rfl⟩
          case rest =>
            obtain ⟨rfl, rfl⟩ := hcut
            generalize fitB D Wk b5 b6 = F at *
            have HDB2 := Lib.hid (show dayb = (M && F) from HDB.out)
            cases M with
            | false =>
              have HNx := Lib.hid (none_step HN.out (HNd.out HDB2.out))
              have e1 : IntKind.i64.wrap (c / 1440 + 1) = c / 1440 + 1 := IntWalk.i64_in _ (by omega)
              have hb1 : c < (c / 1440 + 1) * 1440 ∧ (c / 1440 + 1) * 1440 ≤ 68374080 := by omega
              clear HDB HDB2 HNd HN
              go_wp2_with fail
              exact ⟨⟨_, rfl, by omega, by omega, HNx, HX3⟩, by simp [intOf]; omega⟩
            | true =>
              cases F with
              | false =>
                have HNx := Lib.hid (none_step HN.out (HNd.out HDB2.out))
                have hb1 : c < (c / 1440 + 1) * 1440 ∧ (c / 1440 + 1) * 1440 ≤ 68374080 := by omega
                clear HDB HDB2 HNd HN
                go_wp2_with fail
                exact ⟨⟨_, rfl, by omega, by omega, HNx, HX3⟩, by simp [intOf]; omega⟩
              | true =>
                have HFc := Lib.hid (fun W => HF.out c W (by omega) hlt)
                obtain ⟨fc, hfc⟩ : ∃ fc, f c = fc := ⟨_, rfl⟩
                have HFe := Lib.hid hfc
                rw [hfc] at HFc
                clear hfc HDB HDB2 HNd
                go_wp2_with fail
                refine (HFc.out _).mono ?_
                rintro e w5 ⟨rfl, hb5⟩
                have HX5 := Lib.hid (HX3.out.keep hb5)
                clear hb5 cx lx HX3
                cases fc with
                | true =>
                  go_wp2_with fail
                  rw [← HQ.out]
                  exact ⟨some c, ⟨hc1, hlt, HFe.out, HN.out⟩, rfl, HX5.out.below⟩
                | false =>
                  have HNx := Lib.hid (none_step (c' := c + 1) HN.out (fun j h1 h2 => by rw [show j = c by omega]; exact HFe.out))
                  go_wp2_with fail
                  exact ⟨⟨c + 1, rfl, by omega, by omega, HNx, HX5⟩, by simp [intOf]; omega⟩
    · have hce : c = 68374080 := by omega
      have HXb := Lib.hid HX.out.below
      have HNn := Lib.hid (show LeastAt f m 68374080 none from by rw [← hce]; exact HN.out)
      have hle : ¬ c ≤ 68374079 := by omega
      clear hce HN HX
      go_wp2_with fail
      rw [← HQ.out]
      exact ⟨none, HNn.out, rfl, HXb.out⟩

end Go.Proofs.YtlhaidibcocooaaGreatDoor
