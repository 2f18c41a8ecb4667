/- Civil dates, the reference: civil of a day of the years 2000 to 2099. -/
import Derived.Test.YtlhaidibcocooaaGreatDoorCalC
namespace Go.Proofs.YtlhaidibcocooaaGreatDoor
open Go.RowKit

/-- what telling a day's date gives, by the reference -/
def RCivGives (d : Int) (w : World) (e : Ending) (w' : World) : Prop := e = .returned (.tuple #[.int .i64 ((civN d).1 : Int), .int .i64 ((civN d).2 + 1 : Int), .int .i64 ((d + 4) % 7)]) ∧ Below w.heap.size w w'
theorem yl_range (y : Int) : 365 ≤ ylN y ∧ ylN y ≤ 366 := by unfold ylN; split <;> omega
/-- the guards of a leap year -/
theorem leap_guards (y : Int) : (lpB y = true ∧ (y % 4 == 0) = true ∧ (((y % 100 == 0) = false ∧ (y % 100 != 0) = true) ∨ ((y % 100 == 0) = true ∧ (y % 100 != 0) = false ∧ (y % 400 == 0) = true))) ∨
    (lpB y = false ∧ (((y % 4 == 0) = false ∧ (y % 400 == 0) = false) ∨ ((y % 4 == 0) = true ∧ (y % 100 == 0) = true ∧ (y % 100 != 0) = false ∧ (y % 400 == 0) = false))) := by
  have h := lpB_iff y
  by_cases a4 : y % 4 = 0
  · by_cases a100 : y % 100 = 0
    · by_cases a400 : y % 400 = 0
      · exact .inl ⟨h.2 ⟨a4, .inr a400⟩, by simp [a4], .inr ⟨by simp [a100], by simp [a100], by simp [a400]⟩⟩
      · refine .inr ⟨?_, .inr ⟨by simp [a4], by simp [a100], by simp [a100], by simp [a400]⟩⟩
        cases hb : lpB y
        · rfl
        · have := h.1 hb; omega
    · exact .inl ⟨h.2 ⟨a4, .inl a100⟩, by simp [a4], .inl ⟨by simp [a100], by simp [a100]⟩⟩
  · refine .inr ⟨?_, .inl ⟨by simp [a4], by simp; omega⟩⟩
    cases hb : lpB y
    · rfl
    · have := h.1 hb; omega

set_option maxRecDepth 100000 in
set_option maxHeartbeats 6400000 in
theorem rcivil_any (d : Int) (w : World) (h1 : 10957 ≤ d) (h2 : d < 47482) : Calls Tryz.prog 72 #[.int .i64 d] w (RCivGives d w) := by
  obtain ⟨Q, hQ⟩ : ∃ Q, RCivGives d w = Q := ⟨_, rfl⟩
  rw [hQ]
  have HQ := Lib.hid hQ
  clear hQ
  have hd70 : dnN 1970 = 0 := by decide
  go_enter Tryz.func72, Tryz.ntmps72
  go_wp2_with fail
  go_loopw [0, 5] (fun s0 s5 wr => ∃ y r : Int, s5 = .int .i64 y ∧ s0 = .int .i64 r ∧ 1970 ≤ y ∧ y < 2100 ∧ 0 ≤ r ∧ r < 50000 ∧ Hid (dnN y + r = d) ∧ wr = w) (fun _ s5 _ => (2100 - intOf s5).toNat)
  case atStart => exact ⟨1970, d, rfl, rfl, by decide, by decide, by omega, by omega, (show dnN 1970 + d = d by omega), rfl⟩
  case round =>
    obtain ⟨y, r, rfl, rfl, hy1, hy2, hr0, hr5, HD, rfl⟩ := hrel
    clear hd70
    go_upto_region 4 with fail
    go_cut [25] (fun s25 wx => s25 = .bool (lpB y) ∧ wx = wr)
    case first =>
      rcases leap_guards y with ⟨e0, e1, ⟨e2, e3⟩ | ⟨e2, e3, e4⟩⟩ | ⟨e0, ⟨e1, e2⟩ | ⟨e1, e2, e3, e4⟩⟩
      all_goals
        have E0 := Lib.hid e0
        clear e0
        go_wp2_with fail
        go_meet
        exact ⟨by rw [E0.out], rfl⟩
    case rest =>
      obtain ⟨rfl, rfl⟩ := hcut
      obtain ⟨lp, hlp⟩ : ∃ lp, lpB y = lp := ⟨_, rfl⟩
      have hyl : ylN y = if lp = true then 366 else 365 := by unfold ylN; rw [hlp]
      have HYL := Lib.hid hyl
      have HLP := Lib.hid hlp
      rw [hlp]
      clear hyl hlp
      go_upto_if 25 with fail
      go_cut [6] (fun s6 wx => s6 = .int .i64 (ylN y) ∧ wx = wc)
      case first =>
        cases lp with
        | true =>
          go_wp2_with fail
          go_meet
          exact ⟨by rw [HYL.out]; rfl, rfl⟩
        | false =>
          go_wp2_with fail
          go_meet
          exact ⟨by rw [HYL.out]; rfl, rfl⟩
      case rest =>
        obtain ⟨rfl, rfl⟩ := hcut
        have hyr := yl_range y
        have hsuc := dn_succ y
        have HSUC := Lib.hid hsuc
        obtain ⟨yl, hyl⟩ : ∃ yl, ylN y = yl := ⟨_, rfl⟩
        rw [hyl] at hyr hsuc
        rw [hyl]
        have HYY := Lib.hid hyl
        clear hyl HYL
        by_cases hlt : r < yl
        · have hD := HD.out
          have hyrd : IsYear d y := ⟨by omega, by omega⟩
          have hciv := civ_of hyrd
          have hrem := rem_year y
          rw [HLP.out] at hciv hrem
          obtain ⟨r0, hr00⟩ : ∃ r0 : Nat, r = (r0 : Int) := ⟨r.toNat, by omega⟩
          have HR0 := Lib.hid (show r0 < remN lp 12 1 by rw [HYY.out] at hrem; omega)
          have HCV := Lib.hid (show mrec lp 12 1 r0 = civN d by rw [hciv]; congr 1; omega)
          have hr04 : r0 < 400 := by omega
          subst hr00
          clear hD hyrd hciv hrem hsuc
          go_upto_region 9 with fail
          go_cut [7] (fun s7 wx => s7 = .bool (lpB y) ∧ wx = wc)
          case first =>
            rcases leap_guards y with ⟨e0, e1, ⟨e2, e3⟩ | ⟨e2, e3, e4⟩⟩ | ⟨e0, ⟨e1, e2⟩ | ⟨e1, e2, e3, e4⟩⟩
            all_goals
              have E0 := Lib.hid e0
              clear e0
              go_wp2_with fail
              go_meet
              exact ⟨by rw [E0.out], rfl⟩
          case rest =>
            obtain ⟨rfl, rfl⟩ := hcut
            rw [HLP.out]
            go_wp2_with fail
            go_loopw [0, 4, 8] (fun s0 s4 s8 wx => ∃ (k q : Nat), s8 = .int .i64 ((k : Int) + 1) ∧ s4 = .int .i64 ((d + 4) % 7) ∧ s0 = .int .i64 (q : Int) ∧ k < 12 ∧ q < 400 ∧ Hid (q < remN lp (12 - k) (k + 1)) ∧ Hid (mrec lp (12 - k) (k + 1) q = civN d) ∧ Hid (Below wc.heap.size wc wx)) (fun _ _ s8 _ => 13 - (intOf s8).toNat)
            case atStart => exact ⟨0, r0, rfl, rfl, rfl, by decide, hr04, HR0, HCV, Below.refl _ _⟩
            case round =>
              obtain ⟨k, q, rfl, rfl, rfl, hk, hq4, HR, HC, HBx⟩ := hrel
              obtain ⟨f, hf⟩ : ∃ f, 12 - k = f + 1 := ⟨11 - k, by omega⟩
              have hR := HR.out
              have hC := HC.out
              rw [hf, remN] at hR
              rw [hf, mrec] at hC
              have hml := ml_le lp (k + 1)
              have hpl := ml_plain lp k
              have h29 : k = 1 → lp = true → mlN lp (k + 1) = 29 := fun e1 e2 => by unfold mlN; rw [if_pos ⟨by omega, e2⟩]
              have c0 := (box_cell wr lensA 3 k).trans (lens_at k hk)
              unfold lensA at c0
              have HBq := Lib.hid (HBx.out.trans (((Below.refl wr.heap.size wr).alloc (Nat.le_refl _) (.cells lensA 3)).mono HBx.out.size))
              unfold lensA at HBq
              obtain ⟨ml, hmle⟩ : ∃ ml, mlN lp (k + 1) = ml := ⟨_, rfl⟩
              rw [hmle] at hR hC hml hpl h29
              generalize lensN.getD k 0 = ln at *
              clear hmle HR HC HBx
              by_cases hk1 : k = 1
              · have t2 : ((k : Int) + 1 == 2) = true := by rw [beq_iff_eq]; omega
                cases lp with
                | true =>
                  obtain rfl : ml = 29 := h29 hk1 rfl
                  clear h29 hpl hk1 hml
                  by_cases hr : q < 29
                  · rw [if_pos hr] at hC
                    have HC1 := Lib.hid (show (civN d).1 = k + 1 ∧ (civN d).2 = q by rw [← hC]; exact ⟨rfl, rfl⟩)
                    have hrI : decide ((q : Int) < 29) = true := by rw [decide_eq_true_eq]; omega
                    clear hC hR hf hr
                    go_wp2_with fail
                    rw [← HQ.out]
                    go_ret3
                    exact ⟨by rw [HC1.out.1, HC1.out.2]; rfl, HBq.out⟩
                  · rw [if_neg hr] at hC
                    have hk12 : k + 1 < 12 := by
                      by_cases h : f = 0
                      · subst h
                        rw [remN] at hR
                        omega
                      · omega
                    have e12 : 12 - (k + 1) = f := by omega
                    have HR1 := Lib.hid (show q - 29 < remN true (12 - (k + 1)) (k + 1 + 1) by rw [e12]; omega)
                    have HC1 := Lib.hid (show mrec true (12 - (k + 1)) (k + 1 + 1) (q - 29) = civN d by rw [e12]; exact hC)
                    have HSB := Lib.hid (show (q : Int) - (29 : Int) = ((q - 29 : Nat) : Int) by omega)
                    have hr2 : q - 29 < 400 := by omega
                    have hrI : decide ((q : Int) < 29) = false := by rw [decide_eq_false_iff_not]; omega
                    clear hC hR hf e12 hr
                    go_wp2_with fail
                    go_roundw
                    case rel => exact ⟨k + 1, q - 29, by go_num, rfl, by rw [← HSB.out], hk12, hr2, HR1, HC1, HBq⟩
                    case measure => simp [intOf]; omega
                | false =>
                  obtain rfl : ml = ln := hpl (by simp)
                  clear h29 hpl hk1
                  by_cases hr : q < ml
                  · rw [if_pos hr] at hC
                    have HC1 := Lib.hid (show (civN d).1 = k + 1 ∧ (civN d).2 = q by rw [← hC]; exact ⟨rfl, rfl⟩)
                    clear hC hR hf
                    go_wp2_with fail
                    rw [← HQ.out]
                    go_ret3
                    exact ⟨by rw [HC1.out.1, HC1.out.2]; rfl, HBq.out⟩
                  · rw [if_neg hr] at hC
                    have hk12 : k + 1 < 12 := by
                      by_cases h : f = 0
                      · subst h
                        rw [remN] at hR
                        omega
                      · omega
                    have e12 : 12 - (k + 1) = f := by omega
                    have HR1 := Lib.hid (show q - ml < remN false (12 - (k + 1)) (k + 1 + 1) by rw [e12]; omega)
                    have HC1 := Lib.hid (show mrec false (12 - (k + 1)) (k + 1 + 1) (q - ml) = civN d by rw [e12]; exact hC)
                    have HSB := Lib.hid (show (q : Int) - (ml : Int) = ((q - ml : Nat) : Int) by omega)
                    have hr2 : q - ml < 400 := by omega
                    clear hC hR hf e12
                    go_wp2_with fail
                    go_roundw
                    case rel => exact ⟨k + 1, q - ml, by go_num, rfl, by rw [← HSB.out], hk12, hr2, HR1, HC1, HBq⟩
                    case measure => simp [intOf]; omega
              · have t2 : ((k : Int) + 1 == 2) = false := by rw [beq_eq_false_iff_ne]; omega
                obtain rfl : ml = ln := hpl (fun h => hk1 h.1)
                clear h29 hpl hk1
                by_cases hr : q < ml
                · rw [if_pos hr] at hC
                  have HC1 := Lib.hid (show (civN d).1 = k + 1 ∧ (civN d).2 = q by rw [← hC]; exact ⟨rfl, rfl⟩)
                  clear hC hR hf
                  go_wp2_with fail
                  rw [← HQ.out]
                  go_ret3
                  exact ⟨by rw [HC1.out.1, HC1.out.2]; rfl, HBq.out⟩
                · rw [if_neg hr] at hC
                  have hk12 : k + 1 < 12 := by
                    by_cases h : f = 0
                    · subst h
                      rw [remN] at hR
                      omega
                    · omega
                  have e12 : 12 - (k + 1) = f := by omega
                  have HR1 := Lib.hid (show q - ml < remN lp (12 - (k + 1)) (k + 1 + 1) by rw [e12]; omega)
                  have HC1 := Lib.hid (show mrec lp (12 - (k + 1)) (k + 1 + 1) (q - ml) = civN d by rw [e12]; exact hC)
                  have HSB := Lib.hid (show (q : Int) - (ml : Int) = ((q - ml : Nat) : Int) by omega)
                  have hr2 : q - ml < 400 := by omega
                  clear hC hR hf e12
                  go_wp2_with fail
                  go_roundw
                  case rel => exact ⟨k + 1, q - ml, by go_num, rfl, by rw [← HSB.out], hk12, hr2, HR1, HC1, HBq⟩
                  case measure => simp [intOf]; omega
        · have hD := HD.out
          have hy3 : y + 1 < 2100 := by
            by_cases h : y + 1 < 2100
            · exact h
            · have a := dn_le (show 2100 ≤ y + 1 by omega)
              have b := dn_2100
              omega
          have HD1 := Lib.hid (show dnN (y + 1) + (r - yl) = d by omega)
          clear hsuc hD
          go_wp2_with fail
          exact ⟨⟨y + 1, r - yl, rfl, rfl, by omega, by omega, by omega, by omega, HD1, trivial⟩, by simp [intOf]; omega⟩

end Go.Proofs.YtlhaidibcocooaaGreatDoor
