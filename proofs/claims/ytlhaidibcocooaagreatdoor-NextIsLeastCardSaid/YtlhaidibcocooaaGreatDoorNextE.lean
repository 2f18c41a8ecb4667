/- Times, the program: nextDue tells the least minute that fits. -/
import Derived.Test.YtlhaidibcocooaaGreatDoorNextD
namespace Go.Proofs.YtlhaidibcocooaaGreatDoor
open Go.RowKit

set_option maxRecDepth 100000 in
set_option maxHeartbeats 6400000 in
theorem due_any (a0 a1 a2 a3 a4 : Nat) (b5 b6 : Bool) (m : Int) (w : World) (h0 : a0 < 1152921504606846976) (h1 : a1 < 18446744073709551616) (h2 : a2 < 18446744073709551616) (h3 : a3 < 18446744073709551616) (h4 : a4 < 18446744073709551616) (hm1 : 15778080 ≤ m) (hm2 : m ≤ 68374080) (hT : DebAt w) :
    Calls Tryz.prog 37 #[.agg #[.int .u64 (a0 : Int), .int .u64 (a1 : Int), .int .u64 (a2 : Int), .int .u64 (a3 : Int), .int .u64 (a4 : Int), .bool b5, .bool b6], .int .i64 m] w (DueGives (hitB a0 a1 a2 a3 a4 b5 b6) m w) := by
  have HF := Lib.hid (fun d W hd1 hd2 => fitsDay_any a0 a1 a2 a3 a4 b5 b6 d W h2 h3 h4 hd1 hd2)
  have HX := Lib.hid (BX.start w #[.int .u64 (a0 : Int), .int .u64 (a1 : Int), .int .u64 (a2 : Int), .int .u64 (a3 : Int), .int .u64 (a4 : Int), .bool b5, .bool b6] 24)
  have H0 := Lib.hid h0
  have H1 := Lib.hid h1
  have HT := Lib.hid hT
  obtain ⟨f, hf⟩ : ∃ f, hitB a0 a1 a2 a3 a4 b5 b6 = f := ⟨_, rfl⟩
  rw [hf]
  have HFF := Lib.hid hf
  obtain ⟨Q, hQ⟩ : ∃ Q, DueGives f m w = Q := ⟨_, rfl⟩
  rw [hQ]
  have HQ := Lib.hid hQ
  clear hQ h0 h1 h2 h3 h4 hf hT
  go_enter Tryz.func37, Tryz.ntmps37
  go_wp2_with fail
  refine (begin_2100 _).mono ?_
  rintro e w1 ⟨rfl, hb1⟩
  have HX1 := Lib.hid (HX.out.keep hb1)
  clear hb1 HX
  go_wp2_with fail
  go_loopw [1] (fun s1 wr => ∃ c : Int, s1 = .int .i64 c ∧ m ≤ c ∧ c ≤ 68374080 ∧ Hid (NoneIn f m c) ∧ Hid (BX w wr #[.int .u64 (a0 : Int), .int .u64 (a1 : Int), .int .u64 (a2 : Int), .int .u64 (a3 : Int), .int .u64 (a4 : Int), .bool b5, .bool b6])) (fun s1 _ => (68374080 - intOf s1).toNat)
  case atStart => exact ⟨m, rfl, Int.le_refl _, hm2, fun j h1 h2 => absurd h2 (by omega), HX1⟩
  case round =>
    clear HX1
    obtain ⟨c, rfl, hc1, hc2, HN, HX⟩ := hrel
    by_cases hlt : c < 68374080
    · have cx := HX.out.cells
      have lx := HX.out.lt
      have r1 : 0 ≤ c / 1440 := by omega
      have r2 : 0 ≤ c % 1440 := by omega
      have r3 : 0 ≤ c % 1440 / 60 := by omega
      have r4 : 0 ≤ c % 60 := by omega
      have hdl : (a0 : Int) / (2 : Int) ^ (c % 60).toNat = ((a0 / 2 ^ (c % 60).toNat : Nat) : Int) := by norm_cast
      have q1 := bit_is0 a1 (c % 1440 / 60).toNat H1.out
      have HLT := Lib.hid (show a0 / 2 ^ (c % 60).toNat < 18446744073709551616 from Nat.lt_of_le_of_lt (Nat.div_le_self _ _) (by have := H0.out; omega))
      have HDH := Lib.hid (fun hl hh hd => @due_hit a0 a1 a2 a3 a4 b5 b6 c (by omega) H0.out hl hh hd)
      have HNH := Lib.hid (fun h => @hour_none_h a0 a1 a2 a3 a4 b5 b6 c (by omega) h)
      have HNM := Lib.hid (fun h => @hour_none_m a0 a1 a2 a3 a4 b5 b6 c (by omega) h)
      have HND := Lib.hid (fun h => @day_none a0 a1 a2 a3 a4 b5 b6 c h)
      rw [HFF.out] at HDH HNH HNM HND
      have HFd := Lib.hid (fun W => HF.out (c / 1440) W (by omega) (by omega))
      generalize dayB a2 a3 a4 b5 b6 (c / 1440) = dayb at *
      generalize a1.testBit (c % 1440 / 60).toNat = hb at *
      generalize a0 / 2 ^ (c % 60).toNat = lt at *
      go_wp2_with fail
      refine (HFd.out _).mono ?_
      rintro e w2 ⟨rfl, hb2⟩
      have HX2 := Lib.hid (HX.out.keep hb2)
      clear cx lx hb2 HX hdl
      have cx := HX2.out.cells
      have lx := HX2.out.lt
      cases dayb with
      | false =>
        have HNx := Lib.hid (none_step HN.out (HND.out rfl))
        have hb1 : c < (c / 1440 + 1) * 1440 ∧ (c / 1440 + 1) * 1440 ≤ 68374080 := by omega
        clear HDH HNH HNM HND HN q1
        go_wp2_with fail
        exact ⟨⟨_, rfl, by omega, by omega, HNx, HX2⟩, by simp [intOf]; omega⟩
      | true =>
        have hb1 : c < c / 1440 * 1440 + (c % 1440 / 60 + 1) * 60 ∧ c / 1440 * 1440 + (c % 1440 / 60 + 1) * 60 ≤ 68374080 := by omega
        cases hb with
        | false =>
          have HNx := Lib.hid (none_step HN.out (HNH.out rfl))
          clear HDH HNH HNM HND HN
          go_wp2_with fail
          exact ⟨⟨_, rfl, by omega, by omega, HNx, HX2⟩, by simp [intOf]; omega⟩
        | true =>
          by_cases hz : lt = 0
          · have HNx := Lib.hid (none_step HN.out (HNM.out hz))
            subst hz
            clear HDH HNH HNM HND HN
            go_wp2_with fail
            exact ⟨⟨_, rfl, by omega, by omega, HNx, HX2⟩, by simp [intOf]; omega⟩
          · obtain ⟨d1, d2, d3⟩ := HDH.out hz rfl rfl
            have HTz := Lib.hid (fun W hW => tz_any lt HLT.out W hW)
            have hne : ((lt : Int) == 0) = false := by rw [beq_eq_false_iff_ne]; omega
            generalize Lib.ctz 64 lt = k at *
            have HD2 := Lib.hid d2
            have HD3 := Lib.hid (none_step HN.out d3)
            have hk : k < 60 := by omega
            have hn : c + (k : Int) < 68374080 := by omega
            clear HDH HNH HNM HND HN d2 d3 hz
            go_wp2_with fail
            refine (HTz.out _ (HT.out.keep HX2.out.below)).mono ?_
            rintro e w3 ⟨rfl, rfl⟩
            go_wp2_with fail
            rw [← HQ.out]
            exact ⟨some (c + k), ⟨by omega, hn, HD2.out, HD3.out⟩, rfl, HX2.out.below⟩
    · have hce : c = 68374080 := by omega
      have HXb := Lib.hid HX.out.below
      have HNn := Lib.hid (show LeastAt f m 68374080 none from by rw [← hce]; exact HN.out)
      clear hce HN HX
      go_wp2_with fail
      rw [← HQ.out]
      exact ⟨none, HNn.out, rfl, HXb.out⟩

end Go.Proofs.YtlhaidibcocooaaGreatDoor
