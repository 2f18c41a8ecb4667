/- The reference's words of a line: what a byte of a word is, back and ahead. -/
import Derived.Test.YtokmiommhfbkeaaGreatDoorEditP
import Derived.LoopN
namespace Go.Proofs.YtokmiommhfbkeaaGreatDoor
open Go.RowKit

set_option maxHeartbeats 800000 in
theorem rletterByte_any (c : UInt8) (w : World) : Calls Tryz.prog 141 #[.int .u8 c.toNat] w fun e w' => e = .returned (.bool (c == 95 || letB c)) ∧ w = w' := by
  by_cases h95 : c = 95
  · subst h95
    go_enter Tryz.func141, Tryz.ntmps141
    go_wp2
    go_ret
    exact ⟨rfl, rfl⟩
  · have h1 : (c == 95) = false := by rw [beq_eq_false_iff_ne]; exact h95
    have h2 : ((c.toNat : Int) == 95) = false := by
      rw [beq_eq_false_iff_ne]; intro h; exact h95 (UInt8.toNat_inj.1 (by rw [show (95 : UInt8).toNat = 95 from rfl]; omega))
    rw [h1]
    clear h95 h1
    go_enter Tryz.func141, Tryz.ntmps141
    go_wp2
    all_goals
      go_ret
      exact ⟨ret_bool (by rw [Bool.eq_iff_iff]; simp [letB, withinB]; try omega), rfl⟩

set_option maxHeartbeats 800000 in
theorem rdigitByte_any (c : UInt8) (w : World) : Calls Tryz.prog 194 #[.int .u8 c.toNat] w fun e w' => e = .returned (.bool (withinB c.toNat 48 57)) ∧ w = w' := by
  go_enter Tryz.func194, Tryz.ntmps194
  go_wp2
  all_goals
    go_ret
    exact ⟨ret_bool (by rw [Bool.eq_iff_iff]; simp [withinB]; try omega), rfl⟩

set_option maxHeartbeats 800000 in
theorem rwordByte_any (c : UInt8) (w : World) : Calls Tryz.prog 140 #[.int .u8 c.toNat] w fun e w' => e = .returned (.bool (wordB c)) ∧ w = w' := by
  by_cases h95 : c = 95
  · subst h95
    go_enter Tryz.func140, Tryz.ntmps140
    go_wp2
    go_ret
    exact ⟨rfl, rfl⟩
  · have h1 : (c == 95) = false := by rw [beq_eq_false_iff_ne]; exact h95
    have h2 : ((c.toNat : Int) != 95) = true := by
      rw [bne_iff_ne]; intro h; exact h95 (UInt8.toNat_inj.1 (by rw [show (95 : UInt8).toNat = 95 from rfl]; omega))
    have hL := Lib.hid (fun w => by have := rletterByte_any c w; rw [h1, Bool.false_or] at this; exact this)
    have hD := Lib.hid (fun w => rdigitByte_any c w)
    clear h95 h1
    cases hb : letB c
    · have hfin := Lib.hid (show wordB c = withinB c.toNat 48 57 by simp [wordB, hb])
      rw [hb] at hL
      generalize withinB c.toNat 48 57 = q at *
      clear hb
      go_enter Tryz.func140, Tryz.ntmps140
      go_wp2_with (first | (go_at_call 141; refine (hL.out _).mono ?_; rintro e w' ⟨rfl, rfl⟩) | (go_at_call 194; refine (hD.out _).mono ?_; rintro e w' ⟨rfl, rfl⟩))
      go_ret
      exact ⟨ret_bool hfin.out.symm, rfl⟩
    · have hfin := Lib.hid (show wordB c = true by simp [wordB, hb])
      rw [hb] at hL
      clear hb
      go_enter Tryz.func140, Tryz.ntmps140
      go_wp2_with (go_at_call 141; refine (hL.out _).mono ?_; rintro e w' ⟨rfl, rfl⟩)
      go_ret
      exact ⟨ret_bool hfin.out.symm, rfl⟩

set_option maxRecDepth 100000 in
set_option maxHeartbeats 1600000 in
theorem rbackWord_any (text : ByteArray) (a : Nat) (w : World) (ha : a ≤ text.size) (ht : text.size ≤ 1000) :
    Calls Tryz.prog 88 #[.string text, .int .i64 a] w fun e w' => e = .returned (.int .i64 (backW text a)) ∧ w = w' := by
  have hfin := Lib.hid (show backW text a = backP wordB text (backP (fun c => !wordB c) text a) from rfl)
  go_enter Tryz.func88, Tryz.ntmps88
  go_wp2_with fail
  go_loop [1] (fun i => ∃ k : Nat, k ≤ a ∧ i = .int .i64 k ∧ Hid (backP (fun c => !wordB c) text k = backP (fun c => !wordB c) text a)) (fun i => (intOf i).toNat)
  case atStart => exact ⟨a, Nat.le_refl _, rfl, rfl⟩
  case round =>
    obtain ⟨k, hk, rfl, HR⟩ := hrel
    cases k with
    | zero =>
      have H0 := Lib.hid (show backW text a = 0 by rw [hfin.out, ← HR.out]; rfl)
      go_wp2_with fail
      refine wp_loop_rounds 1 ?_
      rw [rounds_succ]
      go_wp2
      go_ret
      exact ⟨ret_int (by rw [H0.out]; rfl), rfl⟩
    | succ k =>
      have hlt : k < text.size := by omega
      have hw := Lib.hid (fun w => rwordByte_any text[k] w)
      have e2 : (((k + 1 : Nat) : Int) - 1).toNat = k := by omega
      cases hb : wordB text[k]
      · rw [hb] at hw
        have hy := Lib.hid (backP_yes (p := fun c => !wordB c) hlt (by simp [hb]))
        generalize hx : text[k] = x at *
        go_wp2_with (go_at_call 140; refine (hw.out _).mono ?_; rintro e w' ⟨rfl, rfl⟩)
        go_round
        case rel => exact ⟨k, by omega, by go_num, hy.out.symm.trans HR.out⟩
        case measure => simp [intOf]
      · rw [hb] at hw
        have H0 := Lib.hid (show backW text a = backP wordB text (k + 1) by rw [hfin.out, ← HR.out, backP_no (p := fun c => !wordB c) hlt (by simp [hb])])
        generalize hx : text[k] = x at *
        go_wp2_with (go_at_call 140; refine (hw.out _).mono ?_; rintro e w' ⟨rfl, rfl⟩)
        clear hw e2
        go_loop [1] (fun i => ∃ j : Nat, j ≤ a ∧ i = .int .i64 j ∧ Hid (backP wordB text j = backW text a)) (fun i => (intOf i).toNat)
        case atStart => exact ⟨k + 1, by omega, by go_num, H0.out.symm⟩
        case round =>
          obtain ⟨j, hj, rfl, HJ⟩ := hrel
          cases j with
          | zero =>
            go_wp2
            go_ret
            exact ⟨ret_int (by rw [← HJ.out]; rfl), rfl⟩
          | succ j =>
            have hlt : j < text.size := by omega
            have hw := Lib.hid (fun w => rwordByte_any text[j] w)
            have e2 : (((j + 1 : Nat) : Int) - 1).toNat = j := by omega
            cases hb : wordB text[j]
            · rw [hb] at hw
              have hy := Lib.hid (backP_no (p := wordB) hlt hb)
              generalize hx : text[j] = x at *
              go_wp2_with (go_at_call 140; refine (hw.out _).mono ?_; rintro e w' ⟨rfl, rfl⟩)
              go_ret
              exact ⟨ret_int (by rw [← HJ.out, hy.out]; rfl), rfl⟩
            · rw [hb] at hw
              have hy := Lib.hid (backP_yes (p := wordB) hlt hb)
              generalize hx : text[j] = x at *
              go_wp2_with (go_at_call 140; refine (hw.out _).mono ?_; rintro e w' ⟨rfl, rfl⟩)
              go_round
              case rel => exact ⟨j, by omega, by go_num, hy.out.symm.trans HJ.out⟩
              case measure => simp [intOf]

set_option maxRecDepth 100000 in
set_option maxHeartbeats 1600000 in
theorem rnextWord_any (text : ByteArray) (a : Nat) (w : World) (ha : a ≤ text.size) (ht : text.size ≤ 1000) :
    Calls Tryz.prog 89 #[.string text, .int .i64 a] w fun e w' => e = .returned (.int .i64 (nextW text a)) ∧ w = w' := by
  have hfin := Lib.hid (show nextW text a = aheadP wordB text (aheadP (fun c => !wordB c) text a) from rfl)
  go_enter Tryz.func89, Tryz.ntmps89
  go_wp2_with fail
  go_loop [1] (fun i => ∃ k : Nat, k ≤ text.size ∧ i = .int .i64 k ∧ Hid (aheadP (fun c => !wordB c) text k = aheadP (fun c => !wordB c) text a)) (fun i => text.size - (intOf i).toNat)
  case atStart => exact ⟨a, ha, rfl, rfl⟩
  case round =>
    obtain ⟨k, hk, rfl, HR⟩ := hrel
    by_cases hlt : k < text.size
    · have hw := Lib.hid (fun w => rwordByte_any text[k] w)
      cases hb : wordB text[k]
      · rw [hb] at hw
        have hy := Lib.hid (aheadP_yes (p := fun c => !wordB c) hlt (by simp [hb]))
        generalize hx : text[k] = x at *
        go_wp2_with (go_at_call 140; refine (hw.out _).mono ?_; rintro e w' ⟨rfl, rfl⟩)
        go_round
        case rel => exact ⟨k + 1, by omega, by go_num, hy.out.symm.trans HR.out⟩
        case measure => simp [intOf]; omega
      · rw [hb] at hw
        have H0 := Lib.hid (show nextW text a = aheadP wordB text k by rw [hfin.out, ← HR.out, aheadP_no (p := fun c => !wordB c) hlt (by simp [hb])])
        generalize hx : text[k] = x at *
        go_wp2_with (go_at_call 140; refine (hw.out _).mono ?_; rintro e w' ⟨rfl, rfl⟩)
        clear hw
        go_loop [1] (fun i => ∃ j : Nat, j ≤ text.size ∧ i = .int .i64 j ∧ Hid (aheadP wordB text j = nextW text a)) (fun i => text.size - (intOf i).toNat)
        case atStart => exact ⟨k, by omega, by go_num, H0.out.symm⟩
        case round =>
          obtain ⟨j, hj, rfl, HJ⟩ := hrel
          by_cases hlt : j < text.size
          · have hw := Lib.hid (fun w => rwordByte_any text[j] w)
            cases hb : wordB text[j]
            · rw [hb] at hw
              have hy := Lib.hid (aheadP_no (p := wordB) hlt hb)
              generalize hx : text[j] = x at *
              go_wp2_with (go_at_call 140; refine (hw.out _).mono ?_; rintro e w' ⟨rfl, rfl⟩)
              go_ret
              exact ⟨ret_int (by rw [← HJ.out, hy.out]), rfl⟩
            · rw [hb] at hw
              have hy := Lib.hid (aheadP_yes (p := wordB) hlt hb)
              generalize hx : text[j] = x at *
              go_wp2_with (go_at_call 140; refine (hw.out _).mono ?_; rintro e w' ⟨rfl, rfl⟩)
              go_round
              case rel => exact ⟨j + 1, by omega, by go_num, hy.out.symm.trans HJ.out⟩
              case measure => simp [intOf]; omega
          · have hy := Lib.hid (aheadP_end (p := wordB) hlt)
            go_wp2
            go_ret
            exact ⟨ret_int (by rw [← HJ.out, hy.out]), rfl⟩
    · have H0 := Lib.hid (show nextW text a = k by rw [hfin.out, ← HR.out, aheadP_end (p := fun c => !wordB c) hlt, aheadP_end (p := wordB) hlt])
      go_wp2_with fail
      refine wp_loop_rounds 1 ?_
      rw [rounds_succ]
      go_wp2
      go_ret
      exact ⟨ret_int (by rw [H0.out]), rfl⟩

end Go.Proofs.YtokmiommhfbkeaaGreatDoor
