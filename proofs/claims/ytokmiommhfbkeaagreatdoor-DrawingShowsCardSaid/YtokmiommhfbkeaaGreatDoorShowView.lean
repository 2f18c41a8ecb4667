/- The program's View of any line that is right: the row and the column that viewR tells of its text and its place. -/
import Derived.Test.YtokmiommhfbkeaaGreatDoorViewB
import Derived.Test.YtokmiommhfbkeaaGreatDoorPressAny
namespace Go.Proofs.YtokmiommhfbkeaaGreatDoor
open Go.RowKit

set_option maxRecDepth 100000 in
set_option maxHeartbeats 3200000 in
theorem view_line (p : ByteArray) (l : EL) (bv : Value) (a : Nat) (wide : Int) (w : World) (hd : Deb w) (hp : p.size ≤ 200) (hat : l.at' = (a : Int)) (hes : ES w bv l.before) (hf : Fit l) (hpr : pressedE l [] 200 = 0) (ht : l.text.size ≤ 1000) (ha : a ≤ l.text.size)
    (h1 : lineE l.text a = 0) (h2 : rowB p.data.toList = true) (h3 : 2 ≤ wide) (h4 : wide ≤ 200) :
    Calls Tryz.prog 20 #[.string p, elV2 l bv, .int .i64 wide] w fun e w' => e = .returned (viewR p l.text a wide) ∧ Below w.heap.size w w' := by
  have hP := Lib.hid (fun W (hb : Below w.heap.size w W) => by
    have := pressed_any l bv [] (.slice none 0 0) 200 W (hes.keep hb) ⟨none, 0, rfl, Nat.le_refl _, fun h => by simp at h⟩ hf (by simp) (by simp)
    rw [hpr] at this
    exact this)
  obtain ⟨A0, c0, rfl, _, _⟩ := hes
  clear hpr hf
  obtain ⟨t, at', kd, kg, bf, pl, bg⟩ := l
  dsimp only at *
  subst hat
  have hR := Lib.hid (fun W => isRow_any p W (by unfold maxLen; omega))
  rw [h2] at hR
  have hfin := Lib.hid (show viewV p.data.toList t.data.toList a wide = (Lib.trimRightB (((rowK p.data.toList t.data.toList t.size).drop (leftV p.data.toList t.data.toList a wide)).take wide.toNat) 32, (colV p.data.toList t.data.toList a : Int) - (leftV p.data.toList t.data.toList a wide : Int), 0) by
    unfold viewV; rw [if_neg (by simpa using h1), if_neg (by simp [h2]), if_neg (by rw [size_toList]; omega), if_neg (by omega), size_toList]; rfl)
  have hw : withinB wide 2 200 = true := by simp [withinB]; omega
  have HA : Hid (∀ k, (rowK p.data.toList t.data.toList k).length ≤ 200 + 2 * k) := fun k => by
    have := rowK_len p.data.toList t.data.toList k
    rw [size_toList] at this; omega
  clear h1 h2
  go_enter Tryz.func20, Tryz.ntmps20
  go_wp2_with fail
  refine (hP.out _ (by exact (Below.refl _ w).alloc (Nat.le_refl _) _)).mono ?_
  rintro e w1 ⟨rfl, hb1⟩
  obtain ⟨c1, l1⟩ := box_keep (box_new w #[.string t, .int .i64 a, .string kd, .bool kg, .slice A0 bf.length c0, .int .i64 pl, .string bg] 37).1 (by simp) hb1
  have hbw1 : Below w.heap.size w w1 := ((Below.refl _ w).alloc (Nat.le_refl _) _).trans (hb1.mono (by simp))
  have HD := Lib.hid (hd.keep hbw1)
  have HW1 := Lib.hid hbw1
  have C1 := Lib.hid c1
  clear hb1 hbw1 hd
  go_wp2_with (first | (go_at_call 52; refine (hR.out _).mono ?_; rintro e w' ⟨rfl, rfl⟩) | (go_at_call 53; refine (within_any _ _ _ _).mono ?_; rintro e w' ⟨rfl, rfl⟩))
  clear c1 hP hR
  go_loopw [10, 11, 35] (fun row col i wr => ∃ k : Nat, k ≤ t.size ∧ i = .int .i64 k ∧ row = .string ⟨(rowK p.data.toList t.data.toList k).toArray⟩ ∧ col = .int .i64 (colK p.data.toList t.data.toList a k) ∧ Below w1.heap.size w1 wr) (fun _ _ i _ => t.size - (intOf i).toNat)
  case atStart => exact ⟨0, Nat.zero_le _, rfl, by simp [rowK], by simp [colK], Below.refl _ _⟩
  case round =>
    obtain ⟨k, hk, rfl, rfl, rfl, hbw⟩ := hrel
    obtain ⟨cr, lr⟩ := box_keep C1.out l1 hbw
    have hlen := HA.out k
    by_cases hlt : k < t.size
    · have hst := Lib.hid (rowK_step p.data.toList t k hlt)
      have hsl := shownB_len t[k]
      have hS := Lib.hid (shown_any t[k] wr (HD.out.keep hbw))
      by_cases hka : k = a
      · have heq : ((k : Int) == (a : Int)) = true := by rw [hka]; simp
        have hck := Lib.hid (show colK p.data.toList t.data.toList a (k + 1) = ((rowK p.data.toList t.data.toList k).length : Int) by rw [hka]; exact colK_at _ _ _)
        clear hka
        generalize shownB t[k] = sb at *
        generalize hrk : rowK p.data.toList t.data.toList k = rk at *
        go_wp2_with (go_at_call 54; refine hS.out.mono ?_; rintro e w2 ⟨rfl, hb2⟩)
        go_roundw
        case rel => exact ⟨k + 1, by omega, by go_num, by rw [hst.out, strOf_append], by rw [hck.out], hbw.trans (hb2.mono hbw.size)⟩
        case measure => simp [intOf]; omega
      · have heq : ((k : Int) == (a : Int)) = false := by rw [beq_eq_false_iff_ne]; omega
        have hck := Lib.hid (colK_same p.data.toList t.data.toList a k hka)
        clear hka
        generalize shownB t[k] = sb at *
        generalize hrk : rowK p.data.toList t.data.toList k = rk at *
        go_wp2_with (go_at_call 54; refine hS.out.mono ?_; rintro e w2 ⟨rfl, hb2⟩)
        go_roundw
        case rel => exact ⟨k + 1, by omega, by go_num, by rw [hst.out, strOf_append], by rw [hck.out], hbw.trans (hb2.mono hbw.size)⟩
        case measure => simp [intOf]; omega
    · obtain rfl : k = t.size := by omega
      have hC : colV p.data.toList t.data.toList a = (rowK p.data.toList t.data.toList a).length := rfl
      have hCl := HA.out a
      rw [← hC] at hCl
      obtain ⟨W, rfl⟩ := Int.eq_ofNat_of_zero_le (show 0 ≤ wide by omega)
      have hm := Lib.hid (show (leftV p.data.toList t.data.toList a W : Int) = max ((colV p.data.toList t.data.toList a : Int) - W + 1) 0 by unfold leftV; omega)
      have hCR : colV p.data.toList t.data.toList a ≤ (rowK p.data.toList t.data.toList t.size).length := by
        unfold colV rowK
        rw [List.length_append, List.length_append, List.length_flatMap, List.length_flatMap, List.take_of_length_le (l := t.data.toList) (i := t.size) (by rw [size_toList]; omega)]
        have h := List.take_append_drop a t.data.toList
        have : ((t.data.toList.take a ++ t.data.toList.drop a).map fun x => (shownB x).length).sum = (t.data.toList.map fun x => (shownB x).length).sum := by rw [h]
        rw [List.map_append, List.sum_append] at this
        omega
      generalize leftV p.data.toList t.data.toList a W = m at *
      have hmC : m ≤ colV p.data.toList t.data.toList a := by have := hm.out; omega
      have hm2 : max ((colV p.data.toList t.data.toList a : Int) - W + 1) 0 = (m : Int) := hm.out.symm
      by_cases hae : a = t.size
      · have heq : ((a : Int) == (t.size : Int)) = true := by rw [hae]; simp
        have hck : (rowK p.data.toList t.data.toList t.size).length = colV p.data.toList t.data.toList a := by rw [hC, hae]
        clear hC hae
        generalize colK p.data.toList t.data.toList a t.size = c0 at *
        generalize colV p.data.toList t.data.toList a = C at *
        generalize hR : rowK p.data.toList t.data.toList t.size = R at *
        subst hck
        go_wp2_with fail
        refine (Tryz.strings_TrimRight_one _ 32 (by decide) _ (by rw [cutR_size]; omega)).mono ?_
        rintro e w2 ⟨he, hw2⟩
        rw [cutR] at he
        subst he; subst hw2
        go_wp2
        go_ret3
        exact ⟨viewR_of (by rw [hfin.out, Int.toNat_natCast]), HW1.out.trans (hbw.mono HW1.out.size)⟩
      · have heq : ((a : Int) == (t.size : Int)) = false := by rw [beq_eq_false_iff_ne]; omega
        have hck : colK p.data.toList t.data.toList a t.size = (colV p.data.toList t.data.toList a : Int) := by unfold colK; rw [if_pos (by omega)]
        rw [hck]
        clear hck hC hae
        generalize colV p.data.toList t.data.toList a = C at *
        generalize hR : rowK p.data.toList t.data.toList t.size = R at *
        go_wp2_with fail
        refine (Tryz.strings_TrimRight_one _ 32 (by decide) _ (by rw [cutR_size]; omega)).mono ?_
        rintro e w2 ⟨he, hw2⟩
        rw [cutR] at he
        subst he; subst hw2
        go_wp2
        go_ret3
        exact ⟨viewR_of (by rw [hfin.out, Int.toNat_natCast]), HW1.out.trans (hbw.mono HW1.out.size)⟩

end Go.Proofs.YtokmiommhfbkeaaGreatDoor
