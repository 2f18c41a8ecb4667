/- Civil dates, the program: text.Civil of a day of the years 2000 to 2099. -/
import Derived.Test.YtlhaidibcocooaaGreatDoorCalB
namespace Go.Proofs.YtlhaidibcocooaaGreatDoor
open Go.RowKit

theorem start_year (d : Int) (h1 : 10957 ≤ d) (h2 : d < 47482) : 1 ≤ 1970 + d / 366 - 1 ∧ 1970 + d / 366 - 1 < 2100 ∧ dnN (1970 + d / 366 - 1) ≤ d := by
  unfold dnN ybN
  omega
/-- what telling a day's date gives -/
def CivGives (d : Int) (w : World) (e : Ending) (w' : World) : Prop := ∃ y : Int, e = .returned (.tuple #[.int .i64 y, .int .i64 ((civN d).1 : Int), .int .i64 ((civN d).2 + 1 : Int)]) ∧ Below w.heap.size w w'
set_option maxRecDepth 100000 in
set_option maxHeartbeats 3200000 in
theorem civil_any (d : Int) (w : World) (h1 : 10957 ≤ d) (h2 : d < 47482) : Calls Tryz.prog 143 #[.int .i64 d] w (CivGives d w) := by
  obtain ⟨Q, hQ⟩ : ∃ Q, CivGives d w = Q := ⟨_, rfl⟩
  rw [hQ]
  have HQ := Lib.hid hQ
  clear hQ
  obtain ⟨s1, s2, s3⟩ := start_year d h1 h2
  have HS3 := Lib.hid s3
  have hq0 : 0 ≤ d / 366 := by omega
  clear s3
  go_enter Tryz.func143, Tryz.ntmps143
  go_wp2_with fail
  go_loopw [2] (fun s2 wr => ∃ y : Int, s2 = .int .i64 y ∧ 1 ≤ y ∧ y < 2100 ∧ Hid (dnN y ≤ d) ∧ Hid (Below w.heap.size w wr)) (fun s2 _ => (2100 - intOf s2).toNat)
  case atStart => exact ⟨_, rfl, by omega, by omega, HS3.out, Below.refl _ _⟩
  case round =>
    obtain ⟨y, rfl, hy1, hy2, HD, HB⟩ := hrel
    clear hq0 s1 s2
    have HDN := Lib.hid (fun W => day1_any (y + 1) W (by omega) (by omega))
    have HDY := Lib.hid (fun W => day1_any y W (by omega) (by omega))
    obtain ⟨dn1, hdn1⟩ : ∃ dn1, dnN (y + 1) = dn1 := ⟨_, rfl⟩
    rw [hdn1] at HDN
    by_cases hc : dn1 ≤ d
    · have hy3 : y + 1 < 2100 := by
        by_cases h : y + 1 < 2100
        · exact h
        · have a := dn_le (show 2100 ≤ y + 1 by omega)
          have b := dn_2100
          omega
      have HD1 := Lib.hid (show dnN (y + 1) ≤ d by omega)
      clear hdn1
      go_wp2_with fail
      refine (HDN.out _).mono ?_
      rintro e w3 ⟨rfl, hb3⟩
      have HB3 := Lib.hid (HB.out.trans (hb3.mono HB.out.size))
      clear hb3
      go_wp2_with fail
      go_roundw
      case rel => exact ⟨y + 1, rfl, by omega, by omega, HD1, HB3⟩
      case measure => simp [intOf]; omega
    · have hyr : IsYear d y := ⟨HD.out, by omega⟩
      have hciv := civ_of hyr
      have hrem := rem_year y
      have hsuc := dn_succ y
      have hr0 : (d - dnN y).toNat < remN (lpB y) 12 1 := by have := HD.out; unfold IsYear at hyr; omega
      have HR0 := Lib.hid hr0
      have HCV := Lib.hid hciv.symm
      have HM := Lib.hid (fun k W hk => month_any y k W (by omega) (by omega) hk)
      have hdy0 : 0 ≤ d - dnN y := by have := HD.out; omega
      have hdy1 : d - dnN y < 400 := by unfold IsYear at hyr; unfold ylN at hsuc; split at hsuc <;> omega
      obtain ⟨r0, hr00⟩ : ∃ r0, (d - dnN y).toNat = r0 := ⟨_, rfl⟩
      rw [hr00] at HR0 HCV
      have hrr : d - dnN y = (r0 : Int) := by omega
      have hr04 : r0 < 400 := by omega
      obtain ⟨dy, hdy⟩ : ∃ dy, dnN y = dy := ⟨_, rfl⟩
      rw [hdy] at HDY hrr
      have HRR := Lib.hid hrr
      obtain ⟨lp, hlp⟩ : ∃ lp, lpB y = lp := ⟨_, rfl⟩
      rw [hlp] at HR0 HCV HM
      have hdy2 : -1000000 ≤ dy ∧ dy ≤ 1000000 := by omega
      clear hr0 hciv hrem hsuc hdy0 hdy1 hr00 hrr hyr hdn1 hlp hdy
      go_wp2_with fail
      refine (HDN.out _).mono ?_
      rintro e w3 ⟨rfl, hb3⟩
      have HB3 := Lib.hid (HB.out.trans (hb3.mono HB.out.size))
      clear hb3
      go_wp2_with fail
      refine (HDY.out _).mono ?_
      rintro e w4 ⟨rfl, hb4⟩
      have HB4 := Lib.hid (HB3.out.trans (hb4.mono HB3.out.size))
      clear hb4
      go_wp2_with fail
      go_loopw [5, 3] (fun s5 s3 wx => ∃ (k r : Nat), s3 = .int .i64 ((k : Int) + 1) ∧ s5 = .int .i64 (r : Int) ∧ k < 12 ∧ r < 400 ∧ Hid (r < remN lp (12 - k) (k + 1)) ∧ Hid (mrec lp (12 - k) (k + 1) r = civN d) ∧ Hid (Below w.heap.size w wx)) (fun _ s3 _ => 13 - (intOf s3).toNat)
      case atStart => exact ⟨0, r0, rfl, by rw [HRR.out], by decide, hr04, HR0, HCV, HB4⟩
      case round =>
        obtain ⟨k, r, rfl, rfl, hk, hr4, HR, HC, HB5⟩ := hrel
        obtain ⟨f, hf⟩ : ∃ f, 12 - k = f + 1 := ⟨11 - k, by omega⟩
        have hR := HR.out
        have hC := HC.out
        rw [hf, remN] at hR
        rw [hf, mrec] at hC
        have hml := ml_le lp (k + 1)
        have HMk := Lib.hid (fun W => HM.out k W hk)
        obtain ⟨ml, hmle⟩ : ∃ ml, mlN lp (k + 1) = ml := ⟨_, rfl⟩
        rw [hmle] at hR hC hml HMk
        clear hmle HR HC
        by_cases hr : r < ml
        · rw [if_pos hr] at hC
          have hge : ((ml : Int) ≤ (r : Int)) = False := by simp; omega
          have HC1 := Lib.hid (show (civN d).1 = k + 1 ∧ (civN d).2 = r by rw [← hC]; exact ⟨rfl, rfl⟩)
          clear hC hR hf
          go_wp2_with fail
          refine (HMk.out _).mono ?_
          rintro e w6 ⟨rfl, hb6⟩
          have HB6 := Lib.hid (HB5.out.trans (hb6.mono HB5.out.size))
          clear hb6
          go_wp2_with fail
          rw [← HQ.out]
          go_ret3
          exact ⟨y, by rw [HC1.out.1, HC1.out.2]; rfl, HB6.out⟩
        · rw [if_neg hr] at hC
          have hk1 : k + 1 < 12 := by
            by_cases h : f = 0
            · subst h
              rw [remN] at hR
              omega
            · omega
          have e12 : 12 - (k + 1) = f := by omega
          have HR1 := Lib.hid (show r - ml < remN lp (12 - (k + 1)) (k + 1 + 1) by rw [e12]; omega)
          have HC1 := Lib.hid (show mrec lp (12 - (k + 1)) (k + 1 + 1) (r - ml) = civN d by rw [e12]; exact hC)
          have hsub : (r : Int) - (ml : Int) = ((r - ml : Nat) : Int) := by omega
          have HSB := Lib.hid hsub
          have hr2 : r - ml < 400 := by omega
          clear hC hR hf e12 hsub
          go_wp2_with fail
          refine (HMk.out _).mono ?_
          rintro e w6 ⟨rfl, hb6⟩
          have HB6 := Lib.hid (HB5.out.trans (hb6.mono HB5.out.size))
          clear hb6
          go_wp2_with fail
          refine (HMk.out _).mono ?_
          rintro e w7 ⟨rfl, hb7⟩
          have HB7 := Lib.hid (HB6.out.trans (hb7.mono HB6.out.size))
          clear hb7
          go_wp2_with fail
          go_roundw
          case rel => exact ⟨k + 1, r - ml, by go_num, by rw [HSB.out], hk1, hr2, HR1, HC1, HB7⟩
          case measure => simp [intOf]; omega
set_option maxHeartbeats 1600000 in
theorem Civil_any (d : Int) (w : World) (h1 : 10957 ≤ d) (h2 : d < 47482) : Calls Tryz.prog 102 #[.int .i64 d] w fun e w' => ∃ y : Int, e = .returned (.tuple #[.int .i64 y, .int .i64 ((civN d).1 : Int), .int .i64 ((civN d).2 + 1 : Int), .int .i64 0]) ∧ Below w.heap.size w w' := by
  have HC := Lib.hid (fun W => civil_any d W h1 h2)
  go_enter Tryz.func102, Tryz.ntmps102
  go_wp2_with fail
  refine (firstDay_any _).mono ?_
  rintro e w2 ⟨rfl, hb2⟩
  have HB2 := Lib.hid hb2
  clear hb2
  go_wp2_with fail
  refine (lastDay_any _).mono ?_
  rintro e w3 ⟨rfl, hb3⟩
  have HB3 := Lib.hid (HB2.out.trans (hb3.mono HB2.out.size))
  clear hb3
  go_wp2_with fail
  refine (twithin_yes d (-719162) 2932896 _ (by omega) (by omega)).mono ?_
  rintro e w4 ⟨rfl, rfl⟩
  go_wp2_with fail
  refine (HC.out _).mono ?_
  rintro e w5 ⟨y, rfl, hb5⟩
  have HB5 := Lib.hid (HB3.out.trans (hb5.mono HB3.out.size))
  clear hb5
  go_wp2_with fail
  refine bodyPost_ret (v := .tuple #[.int .i64 y, .int .i64 ((civN d).1 : Int), .int .i64 ((civN d).2 + 1 : Int), .int .i64 0]) (by simp [results, Tryz.results102, go_sem]) rfl ⟨y, rfl, HB5.out⟩

end Go.Proofs.YtlhaidibcocooaaGreatDoor
