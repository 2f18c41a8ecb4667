/- Stable sorting: symMerge, the third branch, by the contract for shorter ranges. -/
import Derived.Test.YtppnhdcnjbjibaaGreatDoorGsEnd
namespace Go.Proofs.YtppnhdcnjbjibaaGreatDoor
open Go.RowKit Go.Sort

set_option maxRecDepth 100000 in
set_option maxHeartbeats 6400000 in
theorem sym_mid (g N cap kb : Nat) (P X Y S : List (Nat × EV)) (a m b : Nat) (w : World) (h : Dat 9 w g N cap kb (P ++ X ++ Y ++ S)) (ha : a = P.length) (hm : m = P.length + X.length) (hb : b = P.length + X.length + Y.length) (hX1 : 1 < X.length) (hY1 : 1 < Y.length) (hX : Srt keyE X) (hY : Srt keyE Y) (ht : Tags X Y) (hgx : ∀ p ∈ X, goodE p.2) (hgy : ∀ p ∈ Y, goodE p.2) (hN : N ≤ 1000000) (IH : SymC g N cap kb (X.length + Y.length)) :
    Calls Tryz.prog 83 #[.slice (some ⟨g, 0, none⟩) N cap, .int .i64 (a : Int), .int .i64 (m : Int), .int .i64 (b : Int), .func (.func 25) #[.agg #[.string ⟨#[44]⟩, .slice (some ⟨kb, 0, none⟩) 1 1, .bool false, .bool false, .bool false]] #[]] w fun e w' => e = .returned (.tuple #[]) ∧ MergedE g N cap kb P X Y S w' ∧ Only g w w' := by
  have mixed : Tryz.prog.follows .mixedOrders = true := by kernel_rfl
  have hNb : b ≤ N := by
    have := h.len
    simp at this
    omega
  obtain ⟨u, hu⟩ : ∃ u, X.length = u := ⟨_, rfl⟩
  obtain ⟨v, hv⟩ : ∃ v, Y.length = v := ⟨_, rfl⟩
  have e1 : IntKind.i64.wrap ((m : Int) - (a : Int)) = (u : Int) := by
    rw [show (m : Int) - (a : Int) = (u : Int) by omega]
    exact IntWalk.i64_in _ (by omega)
  have e2 : ((u : Int) == 1) = false := by rw [beq_eq_false_iff_ne]; omega
  have e3 : IntKind.i64.wrap ((b : Int) - (m : Int)) = (v : Int) := by
    rw [show (b : Int) - (m : Int) = (v : Int) by omega]
    exact IntWalk.i64_in _ (by omega)
  have e4 : ((v : Int) == 1) = false := by rw [beq_eq_false_iff_ne]; omega
  have HSM := Lib.hid (show IntKind.i64.wrap ((a : Int) + (b : Int)) = (a : Int) + (b : Int) from IntWalk.i64_in _ (by omega))
  obtain ⟨k, hk⟩ : ∃ k, k = (u + v) / 2 := ⟨_, rfl⟩
  obtain ⟨d, hd⟩ : ∃ d, d = a + k := ⟨_, rfl⟩
  obtain ⟨n, hn⟩ : ∃ n, n = d + m := ⟨_, rfl⟩
  have HMID : Hid (wrap64 (IntKind.u64.wrap ((a : Int) + (b : Int)) / 2) = (d : Int)) := by
    apply Lib.hid
    rw [show (a : Int) + (b : Int) = ((a + b : Nat) : Int) by omega]
    rw [IntWalk.u64_in _ (by omega), show (((a + b : Nat) : Int) / 2) = (d : Int) by omega]
    exact IntWalk.wrap64_in _ (by omega)
  have e5 : IntKind.i64.wrap ((d : Int) + (m : Int)) = (n : Int) := by
    rw [show (d : Int) + (m : Int) = (n : Int) by omega]
    exact IntWalk.i64_in _ (by omega)
  have e6 : IntKind.i64.wrap ((n : Int) - 1) = (n : Int) - 1 := IntWalk.i64_in _ (by omega)
  obtain ⟨s0, r0, hsr, hj1, hj2⟩ : ∃ s0 r0 : Nat, ((s0 = 0 ∨ k = v + s0) ∧ (r0 = k ∨ r0 = u) ∧ s0 ≤ r0 ∧ r0 ≤ k ∧ r0 ≤ u ∧ k ≤ v + s0) ∧ (d < m → IntKind.i64.wrap ((n : Int) - (b : Int)) = ((a + s0 : Nat) : Int) ∧ d = a + r0) ∧ (¬ d < m → s0 = 0 ∧ m = a + r0) := by
    by_cases hdm : d < m
    · refine ⟨k - v, k, by omega, fun _ => ⟨?_, hd⟩, fun h => absurd hdm h⟩
      rw [show (n : Int) - (b : Int) = ((a + (k - v) : Nat) : Int) by omega]
      exact IntWalk.i64_in _ (by omega)
    · exact ⟨0, u, by omega, fun h => absurd h hdm, fun _ => by omega⟩
  have HA := Lib.hid (show a = P.length ∧ m = a + u ∧ b = m + v ∧ X.length = u ∧ Y.length = v ∧ k = (u + v) / 2 ∧ 1 < u ∧ 1 < v ∧ d = a + k ∧ n = d + m ∧ b ≤ N ∧ N ≤ 1000000 from ⟨ha, by omega, by omega, hu, hv, hk, by omega, by omega, hd, hn, hNb, hN⟩)
  have HSR := Lib.hid hsr
  have HD := Lib.hid h
  have HGX := Lib.hid hgx
  have HGY := Lib.hid hgy
  have HIH := Lib.hid IH
  clear IH h ha hm hb hgx hgy hu hv hk hX1 hY1 hsr hd hn
  go_enter Tryz.func83, Tryz.ntmps83
  have hmid := HMID.out
  have hsm := HSM.out
  go_upto_if 140 with fail
  rw [hmid]
  go_cut [20, 21] from 140 to 146 (fun s20 s21 wy => s20 = .int .i64 ((a + s0 : Nat) : Int) ∧ s21 = .int .i64 ((a + r0 : Nat) : Int) ∧ wy = w)
  case first =>
    by_cases hdm : d < m
    · obtain ⟨e7, e8⟩ := hj1 hdm
      have hdz : (d : Int) < (m : Int) := Int.ofNat_lt.2 hdm
      clear hj1 hj2
      replace e8 := Lib.hid e8
      go_wp2_with fail
      go_meet
      exact ⟨by rfl, by rw [e8.out], rfl⟩
    · obtain ⟨e7, e8⟩ := hj2 hdm
      have hdz : ¬ (d : Int) < (m : Int) := fun h => hdm (Int.ofNat_lt.1 h)
      clear hj1 hj2
      replace e8 := Lib.hid e8
      replace e7 := Lib.hid e7
      go_wp2_with fail
      go_meet
      exact ⟨by rw [e7.out]; rfl, by rw [e8.out], rfl⟩
  case rest =>
  obtain ⟨rfl, rfl, hwc⟩ := hcut
  replace hwc := hwc.symm
  subst hwc
  clear hj1 hj2
  go_wp2_with fail
  go_loopw [20, 21] (fun s20 s21 wr => ∃ (s r : Nat), s20 = .int .i64 ((a + s : Nat) : Int) ∧ s21 = .int .i64 ((a + r : Nat) : Int) ∧ Hid (s0 ≤ s ∧ s ≤ r ∧ r ≤ r0) ∧ Hid (∀ q : s0 < s ∧ s - 1 < X.length ∧ k - s < Y.length, ¬ keyE (Y[k - s]'q.2.2).2 < keyE (X[s - 1]'q.2.1).2) ∧ Hid (∀ q : r < r0 ∧ r < X.length ∧ k - 1 - r < Y.length, keyE (Y[k - 1 - r]'q.2.2).2 < keyE (X[r]'q.2.1).2) ∧ Hid (Dat 9 wr g N cap kb (P ++ X ++ Y ++ S)) ∧ Hid (Only g w wr)) (fun s20 s21 _ => (intOf s21).toNat - (intOf s20).toNat)
  case atStart => exact ⟨s0, r0, rfl, rfl, Lib.hid (by have := HSR.out; omega), Lib.hid (fun q => absurd q.1 (by omega)), Lib.hid (fun q => absurd q.1 (by omega)), HD, Lib.hid (Only.refl g w)⟩
  case round =>
    clear HD
    obtain ⟨s, r, rfl, rfl, HI, HL, HR, HD, HO⟩ := hrel
    by_cases hij : s < r
    · have hijz : ((a + s : Nat) : Int) < ((a + r : Nat) : Int) := by omega
      have hjb : a + r ≤ 1000000 := by have := HI.out; have := HA.out; have := HSR.out; omega
      have hs : IntKind.i64.wrap (((a + s : Nat) : Int) + ((a + r : Nat) : Int)) = ((a + s + (a + r) : Nat) : Int) := by
        rw [show ((a + s : Nat) : Int) + ((a + r : Nat) : Int) = ((a + s + (a + r) : Nat) : Int) by omega]
        exact IntWalk.i64_in _ (by omega)
      clear hmid hsm
      generalize hi : a + s = i at *
      generalize hj : a + r = j at *
      go_upto_region 35 with fail
      obtain ⟨q, hq⟩ : ∃ q : Nat, q = (i + j) / 2 := ⟨_, rfl⟩
      have hqi : ((i : Int) + (j : Int)) / 2 = (q : Int) := by omega
      obtain ⟨e, he⟩ : ∃ e, q = a + e := ⟨q - a, by omega⟩
      have hed : s ≤ e ∧ e < r := by omega
      have heX : e < X.length := by have := HI.out; have := HSR.out; have := HA.out; omega
      obtain ⟨f, hf⟩ : ∃ f, f = k - 1 - e := ⟨_, rfl⟩
      have hfe : f + e + 1 = k := by have := HI.out; have := HSR.out; omega
      have hfY : f < Y.length := by have := HI.out; have := HSR.out; have := HA.out; omega
      obtain ⟨z, hz⟩ : ∃ z, z = m + f := ⟨_, rfl⟩
      have hp : IntKind.i64.wrap ((n : Int) - 1 - (q : Int)) = (z : Int) := by
        have := HA.out
        rw [show (n : Int) - 1 - (q : Int) = (z : Int) by omega]
        exact IntWalk.i64_in _ (by omega)
      rw [hqi]
      have hDx := HD.out
      rw [show P ++ X ++ Y ++ S = P ++ X ++ (Y ++ S) by simp, at_mid P X (Y ++ S) e heX] at hDx
      have hDy := HD.out
      rw [at_mid (P ++ X) Y S f hfY] at hDy
      obtain ⟨Xe, hXe⟩ : ∃ u, X[e] = u := ⟨_, rfl⟩
      obtain ⟨Yf, hYf⟩ : ∃ u, Y[f] = u := ⟨_, rfl⟩
      rw [hXe] at hDx
      rw [hYf] at hDy
      have gx : goodE Xe.2 := HGX.out Xe (hXe ▸ List.getElem_mem heX)
      have gy : goodE Yf.2 := HGY.out Yf (hYf ▸ List.getElem_mem hfY)
      have hqA : q = (P ++ X.take e).length := by have := HA.out; simp; omega
      have hmA : z = (P ++ X ++ Y.take f).length := by have := HA.out; simp; omega
      obtain ⟨xt, x0⟩ := Xe
      obtain ⟨yt, y0⟩ := Yf
      have hcy := fun (p : BelowBy wr) => (hDy.below p.h).at hmA
      have hcx := fun (p : BelowBy wr) => (hDx.below p.h).at hqA
      have hmN : z < N := (hcy (BelowBy.refl wr)).1
      have hqN : q < N := (hcx (BelowBy.refl wr)).1
      have c0 := fun (p : BelowBy wr) => (hcy p).2
      have d0 := fun (p : BelowBy wr) => (hcx p).2
      try dsimp only [k0] at c0 d0
      have hcg := fun (p : BelowBy wr) => cmp_any kb _ _ gy gx p.W (HD.out.below p.h).cm
      try dsimp only [k0] at hcg
      have HCG := Lib.hid hcg
      have HE := Lib.hid (And.intro hXe (And.intro hYf (And.intro hed (And.intro hfe (And.intro hf (And.intro hi (And.intro hj he)))))))
      have jz : (q : Int) < (N : Int) := by omega
      have jz1 : (z : Int) < (N : Int) := by omega
      clear hcy hcx hDy hDx hqA hmA gy gx hcg hXe hYf hq he hf hz hed hfe hi hj
      refine wp_region_quiet_below (by assumption) (by kernel_rfl) ?_
      repeat (quiet_step (first | (go_at_call 25; refine calls_below_of _ (HCG.out _))))
      refine wpQuiet_nil ?_
      rintro wz ⟨⟨wy, hbq⟩, hwz⟩
      replace hwz : wz = wy := hwz
      subst hwz
      try dsimp only
      have HGr := Lib.hid (And.intro (HD.out.below hbq) (HO.out.trans (Only.of hbq (Nat.le_refl _))))
      clear c0 d0 HD
      try dsimp only
      clear hbq
      generalize wz = w2 at *
      have hqe : q = a + e := HE.out.2.2.2.2.2.2.2
      have hfq : f = k - 1 - e := HE.out.2.2.2.2.1
      by_cases hlt : cvV y0 x0 < 0
      · have hhigh := Lib.hid (show ∀ p : e < r0 ∧ e < X.length ∧ k - 1 - e < Y.length, keyE (Y[k - 1 - e]'p.2.2).2 < keyE (X[e]'p.2.1).2 from fun p => by
          simp only [← hfq, HE.out.1, HE.out.2.1]
          exact (cv_neg _ _).1 hlt)
        have HI2 := Lib.hid (show s0 ≤ s ∧ s ≤ e ∧ e ≤ r0 by have := HE.out.2.2.1; have := HI.out; omega)
        have hms : q - i < j - i := by have := HE.out.2.2; have := HI.out; omega
        have hio := Lib.hid (HE.out.2.2.2.2.2.1)
        have hqo := Lib.hid hqe
        clear hqe hfq
        have hbt : decide (cvV y0 x0 < 0) = true := decide_eq_true hlt
        rw [hbt]
        go_wp2_with fail
        exact ⟨⟨s, e, by rw [hio.out], by rw [hqo.out], HI2, HL, hhigh, Lib.hid HGr.out.1, Lib.hid HGr.out.2⟩, by simp [intOf]; omega⟩
      · have hlow := Lib.hid (show ∀ p : s0 < e + 1 ∧ e + 1 - 1 < X.length ∧ k - (e + 1) < Y.length, ¬ keyE (Y[k - (e + 1)]'p.2.2).2 < keyE (X[e + 1 - 1]'p.2.1).2 from fun p => by
          have hf2 : k - (e + 1) = f := by omega
          simp only [hf2, Nat.add_sub_cancel, HE.out.1, HE.out.2.1]
          exact fun h2 => hlt ((cv_neg _ _).2 h2))
        have HI2 := Lib.hid (show s0 ≤ e + 1 ∧ e + 1 ≤ r ∧ r ≤ r0 by have := HE.out.2.2.1; have := HI.out; omega)
        have hms : j - (q + 1) < j - i := by have := HE.out.2.2; have := HI.out; omega
        have hjo := Lib.hid (HE.out.2.2.2.2.2.2.1)
        have hqo := Lib.hid (show q + 1 = a + (e + 1) by omega)
        clear hqe hfq
        have hbt : decide (cvV y0 x0 < 0) = false := decide_eq_false hlt
        rw [hbt]
        go_wp2_with fail
        exact ⟨⟨e + 1, r, by rw [← hqo.out]; simp, by rw [hjo.out], HI2, hlow, HR, Lib.hid HGr.out.1, Lib.hid HGr.out.2⟩, by simp [intOf]; omega⟩
    · obtain rfl : s = r := Nat.le_antisymm HI.out.2.1 (Nat.le_of_not_lt hij)
      obtain ⟨i, f, A1, A2, hi, hf, r1, r2, c1, c2, d1, d2⟩ := exit_facts g N cap kb P X Y S HIH.out HA.out hX hY ht HGX.out HGY.out HSR.out ⟨HI.out.1, HI.out.2.2⟩ HL.out HR.out
      have R1 := Lib.hid r1
      have R2 := Lib.hid r2
      have C1 := Lib.hid c1
      have C2 := Lib.hid c2
      have D1 := Lib.hid d1
      have D2 := Lib.hid d2
      clear r1 r2 c1 c2 d1 d2
      rw [← hi]
      have hnlt : ¬ (i : Int) < (i : Int) := Int.lt_irrefl _
      clear hi hij HI HL HR
      go_upto_region 39 with fail
      go_cut [185] from 178 to 185 (fun sl wy => ∃ bb : Bool, sl = .bool bb ∧ Hid (bb = true ↔ i < m ∧ m < f) ∧ wy = wr)
      case first =>
        by_cases c1 : (i : Int) < (m : Int)
        · by_cases c2 : (m : Int) < (f : Int)
          · go_wp2_with fail
            go_meet
            exact ⟨true, rfl, Lib.hid ⟨fun _ => ⟨Int.ofNat_lt.1 c1, Int.ofNat_lt.1 c2⟩, fun _ => rfl⟩, rfl⟩
          · go_wp2_with fail
            go_meet
            exact ⟨false, rfl, Lib.hid ⟨fun h => (by cases h), fun h => absurd (Int.ofNat_lt.2 h.2) (Int.not_lt.2 c2)⟩, rfl⟩
        · go_wp2_with fail
          go_meet
          exact ⟨false, rfl, Lib.hid ⟨fun h => (by cases h), fun h => absurd (Int.ofNat_lt.2 h.1) (Int.not_lt.2 c1)⟩, rfl⟩
      case rest =>
      obtain ⟨bb, rfl, HB39, hwc⟩ := hcut
      replace hwc := hwc.symm
      subst hwc
      go_upto_if 185 with fail
      go_cut [24] from 186 to 191 (fun s24 wy => s24 = .int .i64 (f : Int) ∧ Hid (A1 wy) ∧ Hid (Only g w wy))
      case first =>
        cases bb with
        | true =>
          have HC39 := Lib.hid (R1.out (HB39.out.1 rfl).1 (HB39.out.1 rfl).2 _ HD.out)
          go_wp2_with fail
          refine HC39.out.mono ?_
          rintro e w2 ⟨rfl, ha2, ho2⟩
          have HA2 := Lib.hid ha2
          have HO2 := Lib.hid (HO.out.trans ho2)
          clear ha2 ho2
          go_wp2_with fail
          go_meet
          exact ⟨rfl, HA2, HO2⟩
        | false =>
          have HA2 := Lib.hid (R2.out (fun h => by have := HB39.out.2 h; cases this) _ HD.out)
          go_wp2_with fail
          go_meet
          exact ⟨rfl, HA2, HO⟩
      case rest =>
      obtain ⟨rfl, HA39, HO⟩ := hcut
      go_upto_region 41 with fail
      go_cut [199] from 192 to 199 (fun sl wy => ∃ bb : Bool, sl = .bool bb ∧ Hid (bb = true ↔ a < i ∧ i < d) ∧ wy = wc)
      case first =>
        by_cases c1 : (a : Int) < (i : Int)
        · by_cases c2 : (i : Int) < (d : Int)
          · go_wp2_with fail
            go_meet
            exact ⟨true, rfl, Lib.hid ⟨fun _ => ⟨Int.ofNat_lt.1 c1, Int.ofNat_lt.1 c2⟩, fun _ => rfl⟩, rfl⟩
          · go_wp2_with fail
            go_meet
            exact ⟨false, rfl, Lib.hid ⟨fun h => (by cases h), fun h => absurd (Int.ofNat_lt.2 h.2) (Int.not_lt.2 c2)⟩, rfl⟩
        · go_wp2_with fail
          go_meet
          exact ⟨false, rfl, Lib.hid ⟨fun h => (by cases h), fun h => absurd (Int.ofNat_lt.2 h.1) (Int.not_lt.2 c1)⟩, rfl⟩
      case rest =>
      obtain ⟨bb, rfl, HB41, hwc⟩ := hcut
      replace hwc := hwc.symm
      subst hwc
      go_upto_if 199 with fail
      go_cut [24] from 200 to 205 (fun s24 wy => s24 = .int .i64 (f : Int) ∧ Hid (A2 wy) ∧ Hid (Only g w wy))
      case first =>
        cases bb with
        | true =>
          have HC41 := Lib.hid (C1.out (HB41.out.1 rfl).1 (HB41.out.1 rfl).2 _ HA39.out)
          go_wp2_with fail
          refine HC41.out.mono ?_
          rintro e w2 ⟨rfl, ha2, ho2⟩
          have HA2 := Lib.hid ha2
          have HO2 := Lib.hid (HO.out.trans ho2)
          clear ha2 ho2
          go_wp2_with fail
          go_meet
          exact ⟨rfl, HA2, HO2⟩
        | false =>
          have HA2 := Lib.hid (C2.out (fun h => by have := HB41.out.2 h; cases this) _ HA39.out)
          go_wp2_with fail
          go_meet
          exact ⟨rfl, HA2, HO⟩
      case rest =>
      obtain ⟨rfl, HA41, HO⟩ := hcut
      go_upto_region 43 with fail
      go_cut [213] from 206 to 213 (fun sl wy => ∃ bb : Bool, sl = .bool bb ∧ Hid (bb = true ↔ d < f ∧ f < b) ∧ wy = wc)
      case first =>
        by_cases c1 : (d : Int) < (f : Int)
        · by_cases c2 : (f : Int) < (b : Int)
          · go_wp2_with fail
            go_meet
            exact ⟨true, rfl, Lib.hid ⟨fun _ => ⟨Int.ofNat_lt.1 c1, Int.ofNat_lt.1 c2⟩, fun _ => rfl⟩, rfl⟩
          · go_wp2_with fail
            go_meet
            exact ⟨false, rfl, Lib.hid ⟨fun h => (by cases h), fun h => absurd (Int.ofNat_lt.2 h.2) (Int.not_lt.2 c2)⟩, rfl⟩
        · go_wp2_with fail
          go_meet
          exact ⟨false, rfl, Lib.hid ⟨fun h => (by cases h), fun h => absurd (Int.ofNat_lt.2 h.1) (Int.not_lt.2 c1)⟩, rfl⟩
      case rest =>
      obtain ⟨bb, rfl, HB43, hwc⟩ := hcut
      replace hwc := hwc.symm
      subst hwc
      cases bb with
      | true =>
        have HC43 := Lib.hid (D1.out (HB43.out.1 rfl).1 (HB43.out.1 rfl).2 _ HA41.out)
        go_wp2_with fail
        refine HC43.out.mono ?_
        rintro e w2 ⟨rfl, ha2, ho2⟩
        have HA2 := Lib.hid ha2
        have HO2 := Lib.hid (HO.out.trans ho2)
        clear ha2 ho2
        go_wp2_with fail
        go_end0
        exact ⟨rfl, HA2.out, HO2.out⟩
      | false =>
        have HA2 := Lib.hid (D2.out (fun h => by have := HB43.out.2 h; cases this) _ HA41.out)
        go_wp2_with fail
        go_end0
        exact ⟨rfl, HA2.out, HO.out⟩
end Go.Proofs.YtppnhdcnjbjibaaGreatDoor
