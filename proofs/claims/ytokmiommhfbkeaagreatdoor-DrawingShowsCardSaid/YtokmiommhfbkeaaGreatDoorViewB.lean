/- The program's View shows what viewR tells, for every prompt, text, place and width. -/
import Derived.Test.YtokmiommhfbkeaaGreatDoorViewA
import Derived.Test.YtokmiommhfbkeaaGreatDoorShownRef
namespace Go.Proofs.YtokmiommhfbkeaaGreatDoor
open Go.RowKit

/-- what is shown of a prompt and the first k bytes of a text -/
def rowK (p t : List UInt8) (k : Nat) : List UInt8 := p ++ (t.take k).flatMap shownB
theorem shownB_len (c : UInt8) : (shownB c).length ≤ 2 := by unfold shownB; split <;> (try split) <;> simp
theorem rowK_len (p t : List UInt8) (k : Nat) : (rowK p t k).length ≤ p.length + 2 * k := by
  unfold rowK
  rw [List.length_append, List.length_flatMap]
  have : ∀ l : List UInt8, (l.map fun a => (shownB a).length).sum ≤ 2 * l.length := fun l => by
    induction l with
    | nil => simp
    | cons c r ih => have := shownB_len c; simp only [List.map_cons, List.sum_cons, List.length_cons]; omega
  have h := this (t.take k)
  have h2 : (t.take k).length ≤ k := List.length_take_le _ _
  omega
theorem rowK_step (p : List UInt8) (s : ByteArray) (k : Nat) (h : k < s.size) : rowK p s.data.toList (k + 1) = rowK p s.data.toList k ++ shownB s[k] := by
  unfold rowK; rw [take_snoc s k h, List.flatMap_append, List.append_assoc]; simp
/-- the column of the cursor, and how much is left out on the left -/
def colV (p t : List UInt8) (a : Nat) : Nat := (rowK p t a).length
def leftV (p t : List UInt8) (a : Nat) (wide : Int) : Nat := (max ((colV p t a : Int) - wide + 1) 0).toNat
def viewV (p t : List UInt8) (at' wide : Int) : List UInt8 × Int × Int :=
  if ¬ lineE ⟨t.toArray⟩ at' = 0 then ([], 0, lineE ⟨t.toArray⟩ at')
  else if ¬ rowB p = true then ([], 0, 5)
  else if 200 < p.length then ([], 0, 2)
  else if ¬ (2 ≤ wide ∧ wide ≤ 200) then ([], 0, 3)
  else (Lib.trimRightB (((rowK p t t.length).drop (leftV p t at'.toNat wide)).take wide.toNat) 32, (colV p t at'.toNat : Int) - (leftV p t at'.toNat wide : Int), 0)
def viewR (p t : ByteArray) (at' wide : Int) : Value :=
  .tuple #[.string ⟨(viewV p.data.toList t.data.toList at' wide).1.toArray⟩, .int .i64 (viewV p.data.toList t.data.toList at' wide).2.1, .int .i64 (viewV p.data.toList t.data.toList at' wide).2.2]
theorem viewR_of {p t : ByteArray} {at' wide : Int} {a : ByteArray} {i j : Int} (h : viewV p.data.toList t.data.toList at' wide = (a.data.toList, i, j)) :
    Ending.returned (.tuple #[.string a, .int .i64 i, .int .i64 j]) = .returned (viewR p t at' wide) := by
  unfold viewR; rw [h]

set_option maxRecDepth 100000 in
set_option maxHeartbeats 1600000 in
theorem view_err (p t : ByteArray) (at' wide : Int) (w : World) (hp : p.size ≤ maxLen) (ht : t.size ≤ maxLen)
    (hx : ¬ lineE t at' = 0 ∨ rowB p.data.toList = false ∨ 200 < p.size ∨ ¬ (2 ≤ wide ∧ wide ≤ 200)) :
    Calls Tryz.prog 20 #[.string p, elV t at', .int .i64 wide] w fun e w' => e = .returned (viewR p t at' wide) ∧ Below w.heap.size w w' := by
  have hP := Lib.hid (fun W => pressed_nil t at' W ht)
  have hR := Lib.hid (fun W => isRow_any p W hp)
  have HB := Lib.hid (show ∀ o w1, Below (w.alloc o).heap.size (w.alloc o) w1 → Below w.heap.size w w1 from fun o w1 h => ((Below.refl _ w).alloc (Nat.le_refl _) o).trans (h.mono (by simp)))
  by_cases h1 : lineE t at' = 0
  · rw [h1] at hP
    cases h2 : rowB p.data.toList
    · have hfin := Lib.hid (show viewV p.data.toList t.data.toList at' wide = ([], 0, 5) by unfold viewV; rw [if_neg (by simpa using h1), if_pos (by simp [h2])])
      rw [h2] at hR
      clear hx h1 h2
      go_enter Tryz.func20, Tryz.ntmps20
      go_wp2_with (first | (go_at_call 31; refine (hP.out _).mono ?_; rintro e w1 ⟨rfl, hb1⟩) | (go_at_call 52; refine (hR.out _).mono ?_; rintro e w' ⟨rfl, rfl⟩))
      go_ret3
      exact ⟨viewR_of (by rw [hfin.out]), HB.out _ _ hb1⟩
    · rw [h2] at hR
      by_cases h3 : 200 < p.size
      · have hfin := Lib.hid (show viewV p.data.toList t.data.toList at' wide = ([], 0, 2) by unfold viewV; rw [if_neg (by simpa using h1), if_neg (by simp [h2]), if_pos (by rw [size_toList]; exact h3)])
        clear hx h1 h2
        go_enter Tryz.func20, Tryz.ntmps20
        go_wp2_with (first | (go_at_call 31; refine (hP.out _).mono ?_; rintro e w1 ⟨rfl, hb1⟩) | (go_at_call 52; refine (hR.out _).mono ?_; rintro e w' ⟨rfl, rfl⟩))
        go_ret3
        exact ⟨viewR_of (by rw [hfin.out]), HB.out _ _ hb1⟩
      · have h4 : ¬ (2 ≤ wide ∧ wide ≤ 200) := by
          rcases hx with hx | hx | hx | hx
          · exact absurd h1 hx
          · rw [h2] at hx; cases hx
          · exact absurd hx h3
          · exact hx
        have hfin := Lib.hid (show viewV p.data.toList t.data.toList at' wide = ([], 0, 3) by unfold viewV; rw [if_neg (by simpa using h1), if_neg (by simp [h2]), if_neg (by rw [size_toList]; exact h3), if_pos h4])
        have hw : withinB wide 2 200 = false := by
          cases h : withinB wide 2 200
          · rfl
          · exfalso; simp [withinB] at h; omega
        clear hx h1 h2 h4
        go_enter Tryz.func20, Tryz.ntmps20
        go_wp2_with (first | (go_at_call 31; refine (hP.out _).mono ?_; rintro e w1 ⟨rfl, hb1⟩) | (go_at_call 52; refine (hR.out _).mono ?_; rintro e w' ⟨rfl, rfl⟩) | (go_at_call 53; refine (within_any _ _ _ _).mono ?_; rintro e w' ⟨rfl, rfl⟩))
        go_ret3
        exact ⟨viewR_of (by rw [hfin.out]), HB.out _ _ hb1⟩
  · have h5 : lineE t at' = 5 := by unfold lineE at *; split <;> simp_all
    have hfin := Lib.hid (show viewV p.data.toList t.data.toList at' wide = ([], 0, 5) by unfold viewV; rw [if_pos (by simpa using h1)]; rw [show lineE ⟨t.data.toList.toArray⟩ at' = 5 from by simpa using h5])
    rw [h5] at hP
    clear hx h1 h5
    go_enter Tryz.func20, Tryz.ntmps20
    go_wp2_with (go_at_call 31; refine (hP.out _).mono ?_; rintro e w1 ⟨rfl, hb1⟩)
    go_ret3
    exact ⟨viewR_of (by rw [hfin.out]), HB.out _ _ hb1⟩

/-- the column that is noted after k bytes -/
def colK (p t : List UInt8) (a k : Nat) : Int := if a < k then (colV p t a : Int) else 0
theorem colK_same (p t : List UInt8) (a k : Nat) (h : ¬ k = a) : colK p t a (k + 1) = colK p t a k := by
  unfold colK
  by_cases h1 : a < k
  · rw [if_pos h1, if_pos (by omega)]
  · rw [if_neg h1, if_neg (by omega)]
theorem colK_at (p t : List UInt8) (a : Nat) : colK p t a (a + 1) = ((rowK p t a).length : Int) := by
  unfold colK colV; rw [if_pos (by omega)]
theorem strOf_append (a b : List UInt8) : (⟨a.toArray⟩ : ByteArray) ++ ⟨b.toArray⟩ = ⟨(a ++ b).toArray⟩ := ByteArray.mk_append_mk a b

theorem cutR (R : List UInt8) (m W : Nat) : (((⟨R.toArray⟩ : ByteArray).extract m R.length).extract 0 (min (W : Int) ((R.length - m : Nat) : Int)).toNat).data.toList = (R.drop m).take W := by
  rw [Lib.extract_data, Lib.extract_data, List.drop_zero, Nat.sub_zero, show (⟨R.toArray⟩ : ByteArray).data.toList = R from rfl, List.take_take]
  rw [show min (min (W : Int) ((R.length - m : Nat) : Int)).toNat (R.length - m) = min W (R.length - m) by omega, ← List.take_take, List.take_of_length_le (l := R.drop m) (i := R.length - m) (by rw [List.length_drop]; omega)]
theorem cutR_size (R : List UInt8) (m W : Nat) : (((⟨R.toArray⟩ : ByteArray).extract m R.length).extract 0 (min (W : Int) ((R.length - m : Nat) : Int)).toNat).size = min W (R.length - m) := by
  rw [← size_toList, cutR, List.length_take, List.length_drop]

set_option maxRecDepth 100000 in
set_option maxHeartbeats 3200000 in
theorem view_main (p t : ByteArray) (a : Nat) (wide : Int) (w : World) (hd : Deb w) (hp : p.size ≤ 200) (ht : t.size ≤ 1000) (ha : a ≤ t.size)
    (h1 : lineE t a = 0) (h2 : rowB p.data.toList = true) (h3 : 2 ≤ wide) (h4 : wide ≤ 200) :
    Calls Tryz.prog 20 #[.string p, elV t a, .int .i64 wide] w fun e w' => e = .returned (viewR p t a wide) ∧ Below w.heap.size w w' := by
  have hP := Lib.hid (fun W => pressed_nil t a W (by unfold maxLen; omega))
  have hR := Lib.hid (fun W => isRow_any p W (by unfold maxLen; omega))
  rw [h1] at hP
  rw [h2] at hR
  have hfin := Lib.hid (show viewV p.data.toList t.data.toList a wide = (Lib.trimRightB (((rowK p.data.toList t.data.toList t.size).drop (leftV p.data.toList t.data.toList a wide)).take wide.toNat) 32, (colV p.data.toList t.data.toList a : Int) - (leftV p.data.toList t.data.toList a wide : Int), 0) by
    unfold viewV; rw [if_neg (by simpa using h1), if_neg (by simp [h2]), if_neg (by rw [size_toList]; omega), if_neg (by omega), size_toList]; rfl)
  have hw : withinB wide 2 200 = true := by simp [withinB]; omega
  have HA : Hid (∀ k, (rowK p.data.toList t.data.toList k).length ≤ 200 + 2 * k) := fun k => by
    have := rowK_len p.data.toList t.data.toList k
    rw [size_toList] at this; omega
  clear h1 h2
  go_enter Tryz.func20, Tryz.ntmps20
  go_wp2_with fail
  refine (hP.out _).mono ?_
  rintro e w1 ⟨rfl, hb1⟩
  obtain ⟨c1, l1⟩ := box_keep (box_new w #[.string t, .int .i64 a, .string ⟨#[]⟩, .bool false, .slice none 0 0, .int .i64 0, .string ⟨#[]⟩] 37).1 (by simp) hb1
  have hbw1 : Below w.heap.size w w1 := ((Below.refl _ w).alloc (Nat.le_refl _) _).trans (hb1.mono (by simp))
  have HD := Lib.hid (hd.keep hbw1)
  have HW1 := Lib.hid hbw1
  have C1 := Lib.hid c1
  clear hb1 hbw1 hd
  go_wp2_with (first | (go_at_call 52; refine (hR.out _).mono ?_; rintro e w' ⟨rfl, rfl⟩) | (go_at_call 53; refine (within_any _ _ _ _).mono ?_; rintro e w' ⟨rfl, rfl⟩))
  clear c1 hP hR
  go_loopw [10, 11, 35] (fun row col i wr => ∃ k : Nat, k ≤ t.size ∧ i = .int .i64 k ∧ row = .string ⟨(rowK p.data.toList t.data.toList k).toArray⟩ ∧ col = .int .i64 (colK p.data.toList t.data.toList a k) ∧ Below w1.heap.size w1 wr) (fun _ _ i _ => t.size - (intOf i).toNat)
  case atStart => exact ⟨0, Nat.zero_le _, rfl, by simp [rowK], by simp [colK], Below.refl _ _⟩
  case round =>
    obtain ⟨k, hk, rfl, rfl, rfl, hbw⟩ := hrel
    obtain ⟨cr, lr⟩ := box_keep C1.out l1 hbw
    have hlen := HA.out k
    by_cases hlt : k < t.size
    · have hst := Lib.hid (rowK_step p.data.toList t k hlt)
      have hsl := shownB_len t[k]
      have hS := Lib.hid (shown_any t[k] wr (HD.out.keep hbw))
      by_cases hka : k = a
      · have heq : ((k : Int) == (a : Int)) = true := by rw [hka]; simp
        have hck := Lib.hid (show colK p.data.toList t.data.toList a (k + 1) = ((rowK p.data.toList t.data.toList k).length : Int) by rw [hka]; exact colK_at _ _ _)
        clear hka
        generalize shownB t[k] = sb at *
        generalize hrk : rowK p.data.toList t.data.toList k = rk at *
        go_wp2_with (go_at_call 54; refine hS.out.mono ?_; rintro e w2 ⟨rfl, hb2⟩)
        go_roundw
        case rel => exact ⟨k + 1, by omega, by go_num, by rw [hst.out, strOf_append], by rw [hck.out], hbw.trans (hb2.mono hbw.size)⟩
        case measure => simp [intOf]; omega
      · have heq : ((k : Int) == (a : Int)) = false := by rw [beq_eq_false_iff_ne]; omega
        have hck := Lib.hid (colK_same p.data.toList t.data.toList a k hka)
        clear hka
        generalize shownB t[k] = sb at *
        generalize hrk : rowK p.data.toList t.data.toList k = rk at *
        go_wp2_with (go_at_call 54; refine hS.out.mono ?_; rintro e w2 ⟨rfl, hb2⟩)
        go_roundw
        case rel => exact ⟨k + 1, by omega, by go_num, by rw [hst.out, strOf_append], by rw [hck.out], hbw.trans (hb2.mono hbw.size)⟩
        case measure => simp [intOf]; omega
    · obtain rfl : k = t.size := by omega
      have hC : colV p.data.toList t.data.toList a = (rowK p.data.toList t.data.toList a).length := rfl
      have hCl := HA.out a
      rw [← hC] at hCl
      obtain ⟨W, rfl⟩ := Int.eq_ofNat_of_zero_le (show 0 ≤ wide by omega)
      have hm := Lib.hid (show (leftV p.data.toList t.data.toList a W : Int) = max ((colV p.data.toList t.data.toList a : Int) - W + 1) 0 by unfold leftV; omega)
      have hCR : colV p.data.toList t.data.toList a ≤ (rowK p.data.toList t.data.toList t.size).length := by
        unfold colV rowK
        rw [List.length_append, List.length_append, List.length_flatMap, List.length_flatMap, List.take_of_length_le (l := t.data.toList) (i := t.size) (by rw [size_toList]; omega)]
        have h := List.take_append_drop a t.data.toList
        have : ((t.data.toList.take a ++ t.data.toList.drop a).map fun x => (shownB x).length).sum = (t.data.toList.map fun x => (shownB x).length).sum := by rw [h]
        rw [List.map_append, List.sum_append] at this
        omega
      generalize leftV p.data.toList t.data.toList a W = m at *
      have hmC : m ≤ colV p.data.toList t.data.toList a := by have := hm.out; omega
      have hm2 : max ((colV p.data.toList t.data.toList a : Int) - W + 1) 0 = (m : Int) := hm.out.symm
      by_cases hae : a = t.size
      · have heq : ((a : Int) == (t.size : Int)) = true := by rw [hae]; simp
        have hck : (rowK p.data.toList t.data.toList t.size).length = colV p.data.toList t.data.toList a := by rw [hC, hae]
        clear hC hae
        generalize colK p.data.toList t.data.toList a t.size = c0 at *
        generalize colV p.data.toList t.data.toList a = C at *
        generalize hR : rowK p.data.toList t.data.toList t.size = R at *
        subst hck
        go_wp2_with fail
        refine (Tryz.strings_TrimRight_one _ 32 (by decide) _ (by rw [cutR_size]; omega)).mono ?_
        rintro e w2 ⟨he, hw2⟩
        rw [cutR] at he
        subst he; subst hw2
        go_wp2
        go_ret3
        exact ⟨viewR_of (by rw [hfin.out, Int.toNat_natCast]), HW1.out.trans (hbw.mono HW1.out.size)⟩
      · have heq : ((a : Int) == (t.size : Int)) = false := by rw [beq_eq_false_iff_ne]; omega
        have hck : colK p.data.toList t.data.toList a t.size = (colV p.data.toList t.data.toList a : Int) := by unfold colK; rw [if_pos (by omega)]
        rw [hck]
        clear hck hC hae
        generalize colV p.data.toList t.data.toList a = C at *
        generalize hR : rowK p.data.toList t.data.toList t.size = R at *
        go_wp2_with fail
        refine (Tryz.strings_TrimRight_one _ 32 (by decide) _ (by rw [cutR_size]; omega)).mono ?_
        rintro e w2 ⟨he, hw2⟩
        rw [cutR] at he
        subst he; subst hw2
        go_wp2
        go_ret3
        exact ⟨viewR_of (by rw [hfin.out, Int.toNat_natCast]), HW1.out.trans (hbw.mono HW1.out.size)⟩

theorem view_any (p t : ByteArray) (at' wide : Int) (w : World) (hd : Deb w) (hp : p.size ≤ maxLen) (ht : t.size ≤ maxLen) :
    Calls Tryz.prog 20 #[.string p, elV t at', .int .i64 wide] w fun e w' => e = .returned (viewR p t at' wide) ∧ Below w.heap.size w w' := by
  by_cases hx : ¬ lineE t at' = 0 ∨ rowB p.data.toList = false ∨ 200 < p.size ∨ ¬ (2 ≤ wide ∧ wide ≤ 200)
  · exact view_err p t at' wide w hp ht hx
  · simp only [not_or, Classical.not_not, Bool.not_eq_false, Nat.not_lt] at hx
    obtain ⟨h1, h2, h3, h4, h5⟩ := hx
    have h6 : (withinB at' 0 t.size && lineB t) = true := by
      unfold lineE at h1; split at h1
      · assumption
      · cases h1
    simp only [Bool.and_eq_true, withinB, lineB, decide_eq_true_eq] at h6
    obtain ⟨a, rfl⟩ := Int.eq_ofNat_of_zero_le h6.1.1
    exact view_main p t a wide w hd h3 h6.2.1 (by omega) h1 h2 h4 h5

end Go.Proofs.YtokmiommhfbkeaaGreatDoor
