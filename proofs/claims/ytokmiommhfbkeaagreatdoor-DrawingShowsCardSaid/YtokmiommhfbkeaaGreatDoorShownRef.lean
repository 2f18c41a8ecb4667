/- The reference's shown tells how a byte is displayed as the program's does. -/
import Derived.Test.YtokmiommhfbkeaaGreatDoorShown
namespace Go.Proofs.YtokmiommhfbkeaaGreatDoor
open Go.RowKit

theorem u8and15 (c : UInt8) : bits BinOp.and IntKind.u8 (c.toNat : Int) 15 = ((c.toNat % 16 : Nat) : Int) := by
  have : ∀ u : Fin 256, bits BinOp.and IntKind.u8 ((u.val : Nat) : Int) 15 = ((u.val % 16 : Nat) : Int) := by decide +kernel
  exact this ⟨c.toNat, c.toNat_lt⟩

def hex16 : ByteArray := ⟨#[48, 49, 50, 51, 52, 53, 54, 55, 56, 57, 97, 98, 99, 100, 101, 102]⟩
theorem hex_fin : ∀ a b : Fin 16, (hex16.extract a.val (a.val + 1) ++ hex16.extract b.val (b.val + 1)).data.toList = [hexD a.val, hexD b.val] := by decide +kernel
theorem hex_pair (a b : Nat) (ha : a < 16) (hb : b < 16) : hex16.extract a (a + 1) ++ hex16.extract b (b + 1) = ⟨[hexD a, hexD b].toArray⟩ := by
  apply ByteArray.ext; apply Array.ext'; exact hex_fin ⟨a, ha⟩ ⟨b, hb⟩

set_option maxRecDepth 100000 in
set_option maxHeartbeats 1600000 in
theorem rshown_any (c : UInt8) (w : World) :
    Calls Tryz.prog 127 #[.int .u8 c.toNat] w fun e w' => e = .returned (.string ⟨(shownB c).toArray⟩) ∧ Below w.heap.size w w' := by
  have hc := c.toNat_lt
  by_cases h3 : 128 ≤ c.toNat
  · have hfin := Lib.hid (show shownB c = [hexD (c.toNat / 16), hexD (c.toNat % 16)] by unfold shownB; rw [if_neg (by omega), if_neg (by omega)])
    have ha := u8and15 c
    have hlt : c.toNat % 16 < 16 := Nat.mod_lt _ (by omega)
    go_enter Tryz.func127, Tryz.ntmps127
    go_wp2_with fail
    go_quiet (fail)
    go_wp2
    go_ret
    exact ⟨ret_str (by rw [hfin.out]; exact hex_pair _ _ (by omega) hlt), by repeat (first | exact Below.refl _ _ | refine Below.drew ?_ | exact below_drewN (Below.refl _ _) _)⟩
  · by_cases h1 : 32 ≤ c.toNat ∧ c.toNat ≤ 126
    · have hfin := Lib.hid (show shownB c = [c] by unfold shownB; rw [if_pos h1])
      have hcv := one_back w c
      obtain ⟨g1, g2⟩ := h1
      go_enter Tryz.func127, Tryz.ntmps127
      go_wp2
      go_ret
      exact ⟨ret_str (by rw [hfin.out]), (Below.refl _ _).alloc (Nat.le_refl _) _⟩
    · have hfin := Lib.hid (show shownB c = [94, c ^^^ 64] by unfold shownB; rw [if_neg h1, if_pos (by omega)])
      have hx := xor64 c
      have hcv := one_back w (c ^^^ 64)
      have g : decide ((32 : Int) ≤ c.toNat) = false ∨ (decide ((32 : Int) ≤ c.toNat) = true ∧ decide ((c.toNat : Int) < 127) = false) := by
        by_cases g : 32 ≤ c.toNat
        · exact .inr ⟨by rw [decide_eq_true_iff]; omega, by rw [decide_eq_false_iff_not]; omega⟩
        · exact .inl (by rw [decide_eq_false_iff_not]; omega)
      clear h1
      generalize c ^^^ 64 = y at *
      rcases g with g | ⟨g, g'⟩
      all_goals
        go_enter Tryz.func127, Tryz.ntmps127
        go_wp2
        go_ret
        exact ⟨ret_str (by rw [hfin.out]; apply ByteArray.ext; apply Array.ext'; simp), (Below.refl _ _).alloc (Nat.le_refl _) _⟩

end Go.Proofs.YtokmiommhfbkeaaGreatDoor
