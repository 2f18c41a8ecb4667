/- What the program's Draw sends: its helpers moved, right and wrong, each proved once. The numbers lie between 0 and 200. -/
import Derived.Test.YtokmiommhfbkeaaGreatDoorRow
import Derived.Test.YtokmiommhfbkeaaGreatDoorShelf
import Derived.Lib.SmallJoins
import Derived.Lib.ItoaLen
import Derived.Shelf.GgClosure.Gives
import Derived.Deep.QuietTactic
import Derived.BigQuiet
namespace Go.Proofs.YtokmiommhfbkeaaGreatDoor
open Go.RowKit

/-- the table of powers of ten lies as its initialiser lays it -/
def Pow (w : World) : Prop := Lib.TabIs Tryz.prog w "internal/strconv.uint64pow10" .u64 Lib.pow10Tab
theorem gPow : Tryz.prog.globalNamed "internal/strconv.uint64pow10" = some 5 := by kernel_rfl
theorem Pow.keep {w w' : World} (h : Pow w) (hb : Below w.heap.size w w') : Pow w' := Joins.tab_stays gPow h hb (Nat.le_refl _)

theorem itoa_any (n : Int) (h0 : -1000000 ≤ n) (h1 : n ≤ 1000000) (w : World) (hp : Pow w) :
    Calls Tryz.prog 106 #[.int .i64 n] w fun e w' => e = .returned (.string ⟨(Lib.itoa n).toArray⟩) ∧ Below w.heap.size w w' :=
  (Tryz.strconv_Itoa n (by omega) (by omega) w hp).mono fun _ _ ⟨he, k, os, hw⟩ => ⟨he, by subst hw; exact below_grown w k os⟩

def rightL (n : Int) : List UInt8 := 27 :: 91 :: (Lib.itoa n ++ [67])
theorem itoa_len (n : Int) (h0 : -1000000 ≤ n) (h1 : n ≤ 1000000) : (Lib.itoa n).length ≤ 21 := Lib.itoa_length_le n (by omega) (by omega)

set_option maxHeartbeats 400000 in
theorem right_any (n : Int) (h0 : -1000000 ≤ n) (h1 : n ≤ 1000000) (w : World) (hp : Pow w) :
    Calls Tryz.prog 105 #[.int .i64 n] w fun e w' => e = .returned (.string ⟨(rightL n).toArray⟩) ∧ Below w.heap.size w w' := by
  have hl := itoa_len n h0 h1
  go_enter Tryz.func105, Tryz.ntmps105
  go_wp2_with (go_at_call 106; refine (itoa_any _ h0 h1 _ hp).mono ?_; rintro e w' ⟨rfl, hb⟩)
  go_ret
  exact ⟨ret_str (by apply ByteArray.ext; apply Array.ext'; simp [rightL]), hb⟩

def movedL (f t : Int) : List UInt8 :=
  if f = t then [] else if t = 0 then [13] else if f < t then rightL (t - f) else if f - t ≤ 4 then Lib.repeatL [8] (f - t).toNat else 13 :: rightL t

theorem movedL_len (f t : Int) (h0 : 0 ≤ f) (h1 : f ≤ 200) (h2 : 0 ≤ t) (h3 : t ≤ 200) : (movedL f t).length ≤ 30 := by
  have a := itoa_len (t - f) (by omega) (by omega)
  have b := itoa_len t (by omega) (by omega)
  unfold movedL
  split
  · simp
  · split
    · simp
    · split
      · simp [rightL]; omega
      · split
        · rw [Lib.repeatL_length]; simp; omega
        · simp [rightL]; omega

set_option maxHeartbeats 800000 in
theorem moved_any (f t : Int) (h0 : 0 ≤ f) (h1 : f ≤ 200) (h2 : 0 ≤ t) (h3 : t ≤ 200) (w : World) (hp : Pow w) :
    Calls Tryz.prog 57 #[.int .i64 f, .int .i64 t] w fun e w' => e = .returned (.string ⟨(movedL f t).toArray⟩) ∧ Below w.heap.size w w' := by
  by_cases c1 : f = t
  · have c1b : (f == t) = true := by simpa using c1
    have hfin := Lib.hid (show movedL f t = [] by unfold movedL; rw [if_pos c1])
    clear c1
    go_enter Tryz.func57, Tryz.ntmps57
    go_wp2
    go_ret
    exact ⟨ret_str (by rw [hfin.out]), Below.refl _ _⟩
  have c1b : (f == t) = false := by simpa using c1
  by_cases c2 : t = 0
  · have c2b : (t == 0) = true := by simpa using c2
    have hfin := Lib.hid (show movedL f t = [13] by unfold movedL; rw [if_neg c1, if_pos c2])
    clear c1 c2
    go_enter Tryz.func57, Tryz.ntmps57
    go_wp2
    go_ret
    exact ⟨ret_str (by rw [hfin.out]), Below.refl _ _⟩
  have c2b : (t == 0) = false := by simpa using c2
  by_cases c3 : f < t
  · have hfin := Lib.hid (show movedL f t = rightL (t - f) by unfold movedL; rw [if_neg c1, if_neg c2, if_pos c3])
    clear c1 c2
    go_enter Tryz.func57, Tryz.ntmps57
    go_wp2_with (go_at_call 105; refine (right_any _ (by omega) (by omega) _ hp).mono ?_; rintro e w' ⟨rfl, hb⟩)
    go_ret
    exact ⟨ret_str (by rw [hfin.out]), hb⟩
  by_cases c4 : f - t ≤ 4
  · obtain ⟨k, hk⟩ := Int.eq_ofNat_of_zero_le (show 0 ≤ f - t by omega)
    have hk1 : k ≤ 4 := by omega
    have hfin := Lib.hid (show movedL f t = Lib.repeatL [8] k by unfold movedL; rw [if_neg c1, if_neg c2, if_neg c3, if_pos c4, hk]; rfl)
    clear c1 c2
    go_enter Tryz.func57, Tryz.ntmps57
    have hz : (ByteArray.mk #[8]).size * k ≤ 140737488355328 := by show 1 * k ≤ _; omega
    go_wp2_with (go_at_call 107; refine (Tryz.strings_Repeat _ k _ (by omega) hz).mono ?_; rintro e w' ⟨rfl, hb⟩)
    go_ret
    exact ⟨ret_str (by rw [hfin.out]), hb⟩
  · have hfin := Lib.hid (show movedL f t = 13 :: rightL t by unfold movedL; rw [if_neg c1, if_neg c2, if_neg c3, if_neg c4])
    have hl := itoa_len t (by omega) (by omega)
    have hr : (rightL t).length ≤ 24 := by simp [rightL]; omega
    clear c1 c2
    go_enter Tryz.func57, Tryz.ntmps57
    go_wp2_with (go_at_call 105; refine (right_any _ (by omega) (by omega) _ hp).mono ?_; rintro e w' ⟨rfl, hb⟩)
    go_ret
    exact ⟨ret_str (by rw [hfin.out]; apply ByteArray.ext; apply Array.ext'; simp), hb⟩

/-- a text that ends with a blank, or has other bytes than one column takes -/
def wrongB (l : List UInt8) : Bool := !rowB l || Lib.hasSuffix l [32]

set_option maxHeartbeats 400000 in
theorem wrong_any (s : ByteArray) (w : World) (hs : s.size ≤ maxLen) :
    Calls Tryz.prog 55 #[.string s] w fun e w' => e = .returned (.bool (wrongB s.data.toList)) ∧ w = w' := by
  cases hr : rowB s.data.toList
  · have hfin := Lib.hid (show wrongB s.data.toList = true by simp [wrongB, hr])
    go_enter Tryz.func55, Tryz.ntmps55
    go_wp2_with (go_at_call 52; refine (isRow_any _ _ hs).mono ?_; rintro e w' ⟨rfl, rfl⟩)
    go_ret
    exact ⟨ret_bool hfin.out.symm, rfl⟩
  · have hfin := Lib.hid (show wrongB s.data.toList = Lib.hasSuffix s.data.toList [32] by simp [wrongB, hr])
    have hs' : s.size ≤ 9223372036854775807 := by unfold maxLen at hs; omega
    go_enter Tryz.func55, Tryz.ntmps55
    go_wp2_with (first | (go_at_call 52; refine (isRow_any _ _ hs).mono ?_; rintro e w' ⟨rfl, rfl⟩) | (go_at_call 56; refine (Tryz.strings_HasSuffix _ _ _ hs').mono ?_; rintro e w' ⟨rfl, rfl⟩))
    go_ret
    exact ⟨ret_bool hfin.out.symm, rfl⟩

end Go.Proofs.YtokmiommhfbkeaaGreatDoor
