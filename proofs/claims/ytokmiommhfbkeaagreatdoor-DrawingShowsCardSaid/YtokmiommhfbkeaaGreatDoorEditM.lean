/- The program's editor, in its box: keys that move. -/
import Derived.Test.YtokmiommhfbkeaaGreatDoorEditL
namespace Go.Proofs.YtokmiommhfbkeaaGreatDoor
open Go.RowKit

/-- the keys that only move -/
def movesB (kind : Int) : Bool := decide (kind = 2) || decide (kind = 3) || decide (kind = 4) || decide (kind = 5) || decide (kind = 14) || decide (kind = 15)
def MovePost (w : World) (b : Nat) (d : ED) (bv : Value) (place : Int) (begun : ByteArray) (hv : Value) (kind : Int) (e : Ending) (w' : World) : Prop :=
  e = .returned (.bool (movesB kind)) ∧ Turned w b (edC (if movesB kind then actD kind 0 false d else d) bv place begun hv) w'

set_option maxRecDepth 100000 in
set_option maxHeartbeats 3200000 in
theorem move_any (d : ED) (kind : Int) (bv hv : Value) (place : Int) (begun : ByteArray) (b : Nat) (w : World) (h : Box w b (edC d bv place begun hv)) (ha : d.a ≤ d.text.size) (ht : d.text.size ≤ 1000) :
    Calls Tryz.prog 36 #[.pointer (some ⟨b, 0, none⟩), .int .i64 kind] w (MovePost w b d bv place begun hv kind) := by
  have hB := Lib.hid (backWord_any d bv hv place begun b w h ha ht)
  have hN := Lib.hid (nextWord_any d bv hv place begun b w h ha ht)
  obtain ⟨text, a, killed, killing⟩ := d
  dsimp only at *
  obtain ⟨cc, zz⟩ := h.cell
  have HB := Lib.hid h
  clear h
  by_cases hm : kind = 2 ∨ kind = 3 ∨ kind = 4 ∨ kind = 5 ∨ kind = 14 ∨ kind = 15
  · rcases hm with rfl | rfl | rfl | rfl | rfl | rfl
    · cases a with
      | zero =>
        go_enter Tryz.func36, Tryz.ntmps36
        go_wp2
        go_ret
        exact ⟨rfl, (Turned.refl HB.out).set 1 _⟩
      | succ k =>
        go_enter Tryz.func36, Tryz.ntmps36
        go_wp2
        go_ret
        exact ⟨rfl, (Turned.refl HB.out).set 1 _⟩
    · have e1 : IntKind.i64.wrap ((a : Int) + 1) = (a : Int) + 1 := IntWalk.i64_in _ (by omega)
      by_cases hlt : a < text.size
      · have hd : ¬ (text.size : Int) < (a : Int) + 1 := by omega
        go_enter Tryz.func36, Tryz.ntmps36
        go_wp2_with fail
        go_still_tail 17, (by kernel_rfl)
        go_wp2
        go_ret
        refine ⟨rfl, ?_⟩
        show Turned w b (edC ⟨text, min (a + 1) text.size, killed, killing⟩ bv place begun hv) _
        rw [show min (a + 1) text.size = a + 1 by omega]
        exact ((Turned.refl HB.out).set 1 _).drew
      · have hd : (text.size : Int) < (a : Int) + 1 := by omega
        go_enter Tryz.func36, Tryz.ntmps36
        go_wp2_with fail
        go_still_tail 17, (by kernel_rfl)
        go_wp2
        go_ret
        refine ⟨rfl, ?_⟩
        show Turned w b (edC ⟨text, min (a + 1) text.size, killed, killing⟩ bv place begun hv) _
        rw [show min (a + 1) text.size = text.size by omega]
        exact ((Turned.refl HB.out).set 1 _).drew
    · go_enter Tryz.func36, Tryz.ntmps36
      go_wp2
      go_ret
      exact ⟨rfl, (Turned.refl HB.out).set 1 _⟩
    · go_enter Tryz.func36, Tryz.ntmps36
      go_wp2
      go_ret
      exact ⟨rfl, (Turned.refl HB.out).set 1 _⟩
    · go_enter Tryz.func36, Tryz.ntmps36
      go_wp2_with (go_at_call 77; refine hB.out.mono ?_; rintro e w' ⟨rfl, rfl⟩)
      go_ret
      exact ⟨rfl, (Turned.refl HB.out).set 1 _⟩
    · go_enter Tryz.func36, Tryz.ntmps36
      go_wp2_with (go_at_call 78; refine hN.out.mono ?_; rintro e w' ⟨rfl, rfl⟩)
      go_ret
      exact ⟨rfl, (Turned.refl HB.out).set 1 _⟩
  · simp only [not_or] at hm
    have hfin : movesB kind = false := by simp [movesB, hm]
    unfold MovePost
    rw [hfin]
    have e1 : (kind == 2) = false := by rw [beq_eq_false_iff_ne]; exact hm.1
    have e2 : (kind == 3) = false := by rw [beq_eq_false_iff_ne]; exact hm.2.1
    have e3 : (kind == 4) = false := by rw [beq_eq_false_iff_ne]; exact hm.2.2.1
    have e4 : (kind == 5) = false := by rw [beq_eq_false_iff_ne]; exact hm.2.2.2.1
    have e5 : (kind == 14) = false := by rw [beq_eq_false_iff_ne]; exact hm.2.2.2.2.1
    have e6 : (kind == 15) = false := by rw [beq_eq_false_iff_ne]; exact hm.2.2.2.2.2
    clear hm hfin
    go_enter Tryz.func36, Tryz.ntmps36
    go_wp2
    go_ret
    exact ⟨rfl, Turned.refl HB.out⟩

end Go.Proofs.YtokmiommhfbkeaaGreatDoor
