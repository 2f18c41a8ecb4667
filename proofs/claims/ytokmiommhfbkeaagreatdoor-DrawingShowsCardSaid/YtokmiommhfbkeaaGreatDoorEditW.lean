/- The program's editor, in its box: the words of a line, inserting, erasing, killing. -/
import Derived.Test.YtokmiommhfbkeaaGreatDoorEditP
import Derived.StillTailTactics
import Derived.BigQuiet
import Derived.LoopN
import Derived.Below
import Derived.Laws.OwnMore
import Derived.Deep.Draws
import Derived.OwnWalk
namespace Go.Proofs.YtokmiommhfbkeaaGreatDoor
open Go.RowKit

set_option maxHeartbeats 800000 in
theorem isLetter_any (c : UInt8) (w : World) : Calls Tryz.prog 136 #[.int .u8 c.toNat] w fun e w' => e = .returned (.bool (letB c)) ∧ w = w' := by
  go_enter Tryz.func136, Tryz.ntmps136
  go_wp2
  all_goals
    go_ret
    exact ⟨ret_bool (by rw [Bool.eq_iff_iff]; simp [letB, withinB]; try omega), rfl⟩

set_option maxHeartbeats 800000 in
theorem ofWord_any (c : UInt8) (w : World) : Calls Tryz.prog 135 #[.int .u8 c.toNat] w fun e w' => e = .returned (.bool (wordB c)) ∧ w = w' := by
  cases h : letB c
  · have hfin := Lib.hid (show wordB c = withinB c.toNat 48 57 by simp [wordB, h])
    have hC := Lib.hid (fun w => by have := isLetter_any c w; rw [h] at this; exact this)
    clear h
    go_enter Tryz.func135, Tryz.ntmps135
    go_wp2_with (go_at_call 136; refine (hC.out _).mono ?_; rintro e w' ⟨rfl, rfl⟩)
    all_goals
      go_ret
      exact ⟨ret_bool (by rw [hfin.out, Bool.eq_iff_iff]; simp [withinB]; try omega), rfl⟩
  · have hfin := Lib.hid (show wordB c = true by simp [wordB, h])
    have hC := Lib.hid (fun w => by have := isLetter_any c w; rw [h] at this; exact this)
    clear h
    go_enter Tryz.func135, Tryz.ntmps135
    go_wp2_with (go_at_call 136; refine (hC.out _).mono ?_; rintro e w' ⟨rfl, rfl⟩)
    all_goals
      go_ret
      exact ⟨ret_bool hfin.out.symm, rfl⟩

/-- the editor's box -/
abbrev edC (d : ED) (bv : Value) (place : Int) (begun : ByteArray) (hv : Value) : Array Value :=
  #[.string d.text, .int .i64 d.a, .string d.killed, .bool d.killing, bv, .int .i64 place, .string begun, hv]
def Box (w : World) (b : Nat) (cs : Array Value) : Prop := w.heap[b]? = some (.cells cs 82 (0, 0))
theorem Box.cell {w : World} {b : Nat} {cs : Array Value} (h : Box w b cs) : (∀ j, w.cell? ⟨b, j, none⟩ = cs[j]?) ∧ (∀ j, w.frozen? ⟨b, j, none⟩ = false) :=
  ⟨fun j => by unfold Box at h; simp [World.cell?, h], fun j => by unfold Box at h; simp [World.frozen?, h]⟩
theorem Box.lt {w : World} {b : Nat} {cs : Array Value} (h : Box w b cs) : b < w.heap.size := lt_of_block h

theorem back_i (k : Nat) : ((k + 1 : Nat) : Int) - 1 = k := by omega

set_option maxRecDepth 100000 in
set_option maxHeartbeats 1600000 in
theorem backWord_any (d : ED) (bv hv : Value) (place : Int) (begun : ByteArray) (b : Nat) (w : World) (h : Box w b (edC d bv place begun hv)) (ha : d.a ≤ d.text.size) (ht : d.text.size ≤ 1000) :
    Calls Tryz.prog 77 #[.pointer (some ⟨b, 0, none⟩)] w fun e w' => e = .returned (.int .i64 (backW d.text d.a)) ∧ w = w' := by
  obtain ⟨text, a, killed, killing⟩ := d
  dsimp only at *
  obtain ⟨cc, zz⟩ := h.cell
  have hfin := Lib.hid (show backW text a = backP wordB text (backP (fun c => !wordB c) text a) from rfl)
  clear h
  go_enter Tryz.func77, Tryz.ntmps77
  go_wp2_with fail
  go_loop [3] (fun i => ∃ k : Nat, k ≤ a ∧ i = .int .i64 k ∧ Hid (backP (fun c => !wordB c) text k = backP (fun c => !wordB c) text a)) (fun i => (intOf i).toNat)
  case atStart => exact ⟨a, Nat.le_refl _, rfl, rfl⟩
  case round =>
    obtain ⟨k, hk, rfl, HR⟩ := hrel
    cases k with
    | zero =>
      have H0 := Lib.hid (show backW text a = 0 by rw [hfin.out, ← HR.out]; rfl)
      go_wp2_with fail
      refine wp_loop_rounds 1 ?_
      rw [rounds_succ]
      go_wp2
      go_ret
      exact ⟨ret_int (by rw [H0.out]; rfl), rfl⟩
    | succ k =>
      have hlt : k < text.size := by omega
      have hw := Lib.hid (fun w => ofWord_any text[k] w)
      have e2 : (((k + 1 : Nat) : Int) - 1).toNat = k := by omega
      cases hb : wordB text[k]
      · rw [hb] at hw
        have hy := Lib.hid (backP_yes (p := fun c => !wordB c) hlt (by simp [hb]))
        generalize hx : text[k] = x at *
        go_wp2_with (go_at_call 135; refine (hw.out _).mono ?_; rintro e w' ⟨rfl, rfl⟩)
        go_round
        case rel => exact ⟨k, by omega, by go_num, hy.out.symm.trans HR.out⟩
        case measure => simp [intOf]
      · rw [hb] at hw
        have H0 := Lib.hid (show backW text a = backP wordB text (k + 1) by rw [hfin.out, ← HR.out, backP_no (p := fun c => !wordB c) hlt (by simp [hb])])
        generalize hx : text[k] = x at *
        go_wp2_with (go_at_call 135; refine (hw.out _).mono ?_; rintro e w' ⟨rfl, rfl⟩)
        clear hw e2
        go_loop [3] (fun i => ∃ j : Nat, j ≤ a ∧ i = .int .i64 j ∧ Hid (backP wordB text j = backW text a)) (fun i => (intOf i).toNat)
        case atStart => exact ⟨k + 1, by omega, by go_num, H0.out.symm⟩
        case round =>
          obtain ⟨j, hj, rfl, HJ⟩ := hrel
          cases j with
          | zero =>
            go_wp2
            go_ret
            exact ⟨ret_int (by rw [← HJ.out]; rfl), rfl⟩
          | succ j =>
            have hlt : j < text.size := by omega
            have hw := Lib.hid (fun w => ofWord_any text[j] w)
            have e2 : (((j + 1 : Nat) : Int) - 1).toNat = j := by omega
            cases hb : wordB text[j]
            · rw [hb] at hw
              have hy := Lib.hid (backP_no (p := wordB) hlt hb)
              generalize hx : text[j] = x at *
              go_wp2_with (go_at_call 135; refine (hw.out _).mono ?_; rintro e w' ⟨rfl, rfl⟩)
              go_ret
              exact ⟨ret_int (by rw [← HJ.out, hy.out]; rfl), rfl⟩
            · rw [hb] at hw
              have hy := Lib.hid (backP_yes (p := wordB) hlt hb)
              generalize hx : text[j] = x at *
              go_wp2_with (go_at_call 135; refine (hw.out _).mono ?_; rintro e w' ⟨rfl, rfl⟩)
              go_round
              case rel => exact ⟨j, by omega, by go_num, hy.out.symm.trans HJ.out⟩
              case measure => simp [intOf]

set_option maxRecDepth 100000 in
set_option maxHeartbeats 1600000 in
theorem nextWord_any (d : ED) (bv hv : Value) (place : Int) (begun : ByteArray) (b : Nat) (w : World) (h : Box w b (edC d bv place begun hv)) (ha : d.a ≤ d.text.size) (ht : d.text.size ≤ 1000) :
    Calls Tryz.prog 78 #[.pointer (some ⟨b, 0, none⟩)] w fun e w' => e = .returned (.int .i64 (nextW d.text d.a)) ∧ w = w' := by
  obtain ⟨text, a, killed, killing⟩ := d
  dsimp only at *
  obtain ⟨cc, zz⟩ := h.cell
  have hfin := Lib.hid (show nextW text a = aheadP wordB text (aheadP (fun c => !wordB c) text a) from rfl)
  clear h
  go_enter Tryz.func78, Tryz.ntmps78
  go_wp2_with fail
  go_loop [3] (fun i => ∃ k : Nat, k ≤ text.size ∧ i = .int .i64 k ∧ Hid (aheadP (fun c => !wordB c) text k = aheadP (fun c => !wordB c) text a)) (fun i => text.size - (intOf i).toNat)
  case atStart => exact ⟨a, ha, rfl, rfl⟩
  case round =>
    obtain ⟨k, hk, rfl, HR⟩ := hrel
    by_cases hlt : k < text.size
    · have hw := Lib.hid (fun w => ofWord_any text[k] w)
      cases hb : wordB text[k]
      · rw [hb] at hw
        have hy := Lib.hid (aheadP_yes (p := fun c => !wordB c) hlt (by simp [hb]))
        generalize hx : text[k] = x at *
        go_wp2_with (go_at_call 135; refine (hw.out _).mono ?_; rintro e w' ⟨rfl, rfl⟩)
        go_round
        case rel => exact ⟨k + 1, by omega, by go_num, hy.out.symm.trans HR.out⟩
        case measure => simp [intOf]; omega
      · rw [hb] at hw
        have H0 := Lib.hid (show nextW text a = aheadP wordB text k by rw [hfin.out, ← HR.out, aheadP_no (p := fun c => !wordB c) hlt (by simp [hb])])
        generalize hx : text[k] = x at *
        go_wp2_with (go_at_call 135; refine (hw.out _).mono ?_; rintro e w' ⟨rfl, rfl⟩)
        clear hw
        go_loop [3] (fun i => ∃ j : Nat, j ≤ text.size ∧ i = .int .i64 j ∧ Hid (aheadP wordB text j = nextW text a)) (fun i => text.size - (intOf i).toNat)
        case atStart => exact ⟨k, by omega, by go_num, H0.out.symm⟩
        case round =>
          obtain ⟨j, hj, rfl, HJ⟩ := hrel
          by_cases hlt : j < text.size
          · have hw := Lib.hid (fun w => ofWord_any text[j] w)
            cases hb : wordB text[j]
            · rw [hb] at hw
              have hy := Lib.hid (aheadP_no (p := wordB) hlt hb)
              generalize hx : text[j] = x at *
              go_wp2_with (go_at_call 135; refine (hw.out _).mono ?_; rintro e w' ⟨rfl, rfl⟩)
              go_ret
              exact ⟨ret_int (by rw [← HJ.out, hy.out]), rfl⟩
            · rw [hb] at hw
              have hy := Lib.hid (aheadP_yes (p := wordB) hlt hb)
              generalize hx : text[j] = x at *
              go_wp2_with (go_at_call 135; refine (hw.out _).mono ?_; rintro e w' ⟨rfl, rfl⟩)
              go_round
              case rel => exact ⟨j + 1, by omega, by go_num, hy.out.symm.trans HJ.out⟩
              case measure => simp [intOf]; omega
          · have hy := Lib.hid (aheadP_end (p := wordB) hlt)
            go_wp2
            go_ret
            exact ⟨ret_int (by rw [← HJ.out, hy.out]), rfl⟩
    · have H0 := Lib.hid (show nextW text a = k by rw [hfin.out, ← HR.out, aheadP_end (p := fun c => !wordB c) hlt, aheadP_end (p := wordB) hlt])
      go_wp2_with fail
      refine wp_loop_rounds 1 ?_
      rw [rounds_succ]
      go_wp2
      go_ret
      exact ⟨ret_int (by rw [H0.out]), rfl⟩

end Go.Proofs.YtokmiommhfbkeaaGreatDoor
