/- Whether an entry of a line becomes the line by bytes that were inserted: the program's goesOn. -/
import Derived.Test.YtokmiommhfbkeaaGreatDoorEditR
import Derived.BigQuiet
import Derived.IntWalk
import Derived.Lib.IndexAny
namespace Go.Proofs.YtokmiommhfbkeaaGreatDoor
open Go.RowKit

def spB (t : ByteArray) : Bool := t.data.toList.contains 32
theorem contains_sp (t : ByteArray) (w : World) : Calls Tryz.prog 70 #[.string t, .string ⟨#[32]⟩] w fun e w' => e = .returned (.bool (spB t)) ∧ w = w' :=
  (Tryz.strings_Contains_one t 32 w).mono fun e w' ⟨he, hw⟩ => ⟨by rw [he, spB, Lib.contains_iff_indexByte], hw.symm⟩

theorem goesB_eq (b : ByteArray × Int) (t : ByteArray) (a : Nat) :
    goesB b t a = (decide (b.1.size < t.size) && decide ((a : Int) = b.2 + ((t.size : Int) - b.1.size)) && decide (b.1 = cutT t b.2.toNat a) && !(t.extract b.2.toNat a).data.toList.contains 32) := rfl

set_option maxRecDepth 100000 in
set_option maxHeartbeats 3200000 in
theorem goesOn_any (s : ByteArray) (k : Nat) (text killed begun : ByteArray) (a : Nat) (killing : Bool) (bv : Value) (place : Int) (w : World) (hk : k ≤ s.size) (hs : s.size ≤ 1000) (ha : a ≤ text.size) (ht : text.size ≤ 1000) :
    Calls Tryz.prog 38 #[.agg #[.string s, .int .i64 k], .agg #[.string text, .int .i64 a, .string killed, .bool killing, bv, .int .i64 place, .string begun]] w fun e w' => e = .returned (.bool (goesB (s, (k : Int)) text a)) ∧ Below w.heap.size w w' := by
  have hg := goesB_eq (s, (k : Int)) text a
  dsimp only at hg
  have HG := Lib.hid hg
  clear hg
  have e1 : IntKind.i64.wrap ((text.size : Int) - (s.size : Int)) = (text.size : Int) - (s.size : Int) := IntWalk.i64_in _ (by omega)
  have e2 : IntKind.i64.wrap ((k : Int) + ((text.size : Int) - (s.size : Int))) = (k : Int) + ((text.size : Int) - (s.size : Int)) := IntWalk.i64_in _ (by omega)
  by_cases h1 : s.size < text.size
  · have hd1 : decide ((text.size : Int) - (s.size : Int) < 1) = false := by rw [decide_eq_false_iff_not]; omega
    by_cases h2 : (a : Int) = (k : Int) + ((text.size : Int) - (s.size : Int))
    · have hka : k ≤ a := by omega
      have g1 : ¬ 9223372036854775807 < k + (text.size - a) := by omega
      have hd2 : ((a : Int) != (k : Int) + ((text.size : Int) - (s.size : Int))) = false := by rw [bne_eq_false_iff_eq]; exact h2
      have h2a := Lib.hid h2
      have hkt : k ≤ text.size := by omega
      by_cases h3 : s = cutT text k a
      · have e3 : (s.toList == (text.extract 0 k ++ text.extract a text.size).toList) = true := by rw [h3]; simp [cutT]
        have HF := Lib.hid (show goesB (s, (k : Int)) text a = !spB (text.extract k a) by
          rw [HG.out, decide_eq_true h1, decide_eq_true h2, Int.toNat_natCast, decide_eq_true h3]; rfl)
        clear h2 h3
        go_enter Tryz.func38, Tryz.ntmps38
        go_wp2_with fail
        go_quiet (fail)
        go_wp2_with fail
        refine (contains_sp _ _).mono ?_
        rintro e w' ⟨rfl, rfl⟩
        go_wp2
        go_ret
        exact ⟨ret_bool (by rw [HF.out]), below_drewN (((Below.refl _ w).alloc (Nat.le_refl _) _).alloc (by simp) _) _⟩
      · have e3 : (s.toList == (text.extract 0 k ++ text.extract a text.size).toList) = false := by
          rw [beq_eq_false_iff_ne, ByteArray.toList_eq, ByteArray.toList_eq]; intro e; exact h3 (ByteArray.ext (Array.ext' e))
        have HF := Lib.hid (show goesB (s, (k : Int)) text a = false by
          rw [HG.out, Int.toNat_natCast, decide_eq_false h3]; simp)
        clear h2 h3
        go_enter Tryz.func38, Tryz.ntmps38
        go_wp2_with fail
        go_quiet (fail)
        go_wp2
        go_ret
        exact ⟨ret_bool (by rw [HF.out]), below_drewN (((Below.refl _ w).alloc (Nat.le_refl _) _).alloc (by simp) _) _⟩
    · have hd2 : ((a : Int) != (k : Int) + ((text.size : Int) - (s.size : Int))) = true := by rw [bne_iff_ne]; exact h2
      have HF := Lib.hid (show goesB (s, (k : Int)) text a = false by rw [HG.out, decide_eq_false h2]; simp)
      clear h2
      go_enter Tryz.func38, Tryz.ntmps38
      go_wp2_with fail
      go_quiet (fail)
      go_wp2
      go_ret
      exact ⟨ret_bool (by rw [HF.out]), below_drewN (((Below.refl _ w).alloc (Nat.le_refl _) _).alloc (by simp) _) _⟩
  · have hd1 : decide ((text.size : Int) - (s.size : Int) < 1) = true := by rw [decide_eq_true_iff]; omega
    have HF := Lib.hid (show goesB (s, (k : Int)) text a = false by rw [HG.out, decide_eq_false h1]; simp)
    clear h1
    go_enter Tryz.func38, Tryz.ntmps38
    go_wp2_with fail
    go_quiet (fail)
    go_wp2
    go_ret
    exact ⟨ret_bool (by rw [HF.out]), below_drewN (((Below.refl _ w).alloc (Nat.le_refl _) _).alloc (by simp) _) _⟩

end Go.Proofs.YtokmiommhfbkeaaGreatDoor
