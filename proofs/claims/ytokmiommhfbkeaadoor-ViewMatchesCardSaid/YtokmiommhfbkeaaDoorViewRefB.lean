/- The reference's View shows what viewR tells where the prompt is short, the line is right and the width is. -/
import Derived.Test.YtokmiommhfbkeaaDoorViewRef
namespace Go.Proofs.YtokmiommhfbkeaaDoor
open Go.RowKit

theorem cutS (R : List UInt8) (m W : Nat) : (((⟨R.toArray⟩ : ByteArray).extract m R.length).extract 0 (min ((R.length - m : Nat) : Int) (W : Int)).toNat).data.toList = (R.drop m).take W := by
  rw [Int.min_comm, cutR]
theorem cutS_size (R : List UInt8) (m W : Nat) : (((⟨R.toArray⟩ : ByteArray).extract m R.length).extract 0 (min ((R.length - m : Nat) : Int) (W : Int)).toNat).size = min W (R.length - m) := by
  rw [Int.min_comm, cutR_size]
theorem cutT (R : List UInt8) (W : Nat) : ((⟨R.toArray⟩ : ByteArray).extract 0 (min (R.length : Int) (W : Int)).toNat).data.toList = R.take W := by
  rw [Lib.extract_data, List.drop_zero, Nat.sub_zero, show (⟨R.toArray⟩ : ByteArray).data.toList = R from rfl, show (min (R.length : Int) (W : Int)).toNat = min W R.length by omega, ← List.take_take, List.take_of_length_le (l := R) (i := R.length) (Nat.le_refl _)]
theorem cutT_size (R : List UInt8) (W : Nat) : ((⟨R.toArray⟩ : ByteArray).extract 0 (min (R.length : Int) (W : Int)).toNat).size = min W R.length := by
  rw [← size_toList, cutT, List.length_take]

set_option maxRecDepth 100000 in
set_option maxHeartbeats 12800000 in
theorem rview_main (p t : ByteArray) (a : Nat) (wide : Int) (w : World) (_hd : Deb w) (hp : p.size ≤ 200) (ht : t.size ≤ 1000) (ha : a ≤ t.size)
    (h1 : lineE t a = 0) (h2 : rowB p.data.toList = true) (h3 : 2 ≤ wide) (h4 : wide ≤ 200) :
    Calls Tryd.prog 15 #[.string p, elV t a, .int .i64 wide] w fun e w' => e = .returned (viewR p t a wide) ∧ Below w.heap.size w w' := by
  have hmk := make200
  have hP := Lib.hid (fun W v (hv : SL W v hist200) => editForm_nil t a v W hv (by unfold maxLen; omega))
  have hR := Lib.hid (fun W => visible_any p W (by unfold maxLen; omega))
  rw [h1] at hP
  rw [h2] at hR
  have hfin := Lib.hid (show viewV p.data.toList t.data.toList a wide = (Lib.trimRightB (((rowK p.data.toList t.data.toList t.size).drop (leftV p.data.toList t.data.toList a wide)).take wide.toNat) 32, (colV p.data.toList t.data.toList a : Int) - (leftV p.data.toList t.data.toList a wide : Int), 0) by
    unfold viewV; rw [if_neg (by simpa using h1), if_neg (by simp [h2]), if_neg (by rw [size_toList]; omega), if_neg (by omega), size_toList]; rfl)
  have hw : ¬ wide < 2 := by omega
  have hw2 : ¬ 200 < wide := by omega
  have HA : Hid (∀ k, (rowK p.data.toList t.data.toList k).length ≤ 200 + 2 * k) := fun k => by
    have := rowK_len p.data.toList t.data.toList k
    rw [size_toList] at this; omega
  clear h1 h2
  go_enter Tryd.func15, Tryd.ntmps15
  go_wp2_with fail
  go_region_with (go_at_call 41; refine (hP.out _ _ (by exact SL200b (w := w.alloc (.cells #[.string t, .int .i64 a, .string ⟨#[]⟩, .bool false, .slice none 0 0, .int .i64 0, .string ⟨#[]⟩] 34)) (by simp) (Below.refl _ _).drew)).mono ?_; rintro e w1 ⟨rfl, hb1⟩)
  all_goals
    clear hmk
    have hbw1 : Below w.heap.size w w1 := below_two w _ _ _ hb1
    have hbk : (∀ j, w1.cell? ⟨w.heap.size, j, none⟩ = #[Value.string t, .int .i64 a, .string ⟨#[]⟩, .bool false, .slice none 0 0, .int .i64 0, .string ⟨#[]⟩][j]?) ∧ w.heap.size < w1.heap.size :=
      ⟨fun j => (hb1.cell (p := ⟨w.heap.size, j, none⟩) (by simp; omega)).trans (box_old w _ _ _ j), Nat.lt_of_lt_of_le (by simp; omega) hb1.size⟩
    obtain ⟨c1, l1⟩ := hbk
    have HW1 := Lib.hid hbw1
    have C1 := Lib.hid c1
    clear hb1 hbw1
    go_wp2_with (go_at_call 29; refine (hR.out _).mono ?_; rintro e w' ⟨rfl, rfl⟩)
    clear c1 hP hR
    go_loopw [10, 11, 38] (fun row col i wr => ∃ k : Nat, k ≤ t.size ∧ i = .int .i64 k ∧ row = .string ⟨(rowK p.data.toList t.data.toList k).toArray⟩ ∧ col = .int .i64 (colK p.data.toList t.data.toList a k) ∧ Below w1.heap.size w1 wr) (fun _ _ i _ => t.size - (intOf i).toNat)
    case atStart => exact ⟨0, Nat.zero_le _, rfl, by simp [rowK], by simp [colK], Below.refl _ _⟩
    case round =>
      obtain ⟨k, hk, rfl, rfl, rfl, hbw⟩ := hrel
      obtain ⟨cr, lr⟩ := box_keep C1.out l1 hbw
      have hlen := HA.out k
      by_cases hlt : k < t.size
      · have hst := Lib.hid (rowK_step p.data.toList t k hlt)
        have hsl := shownB_len t[k]
        have hS := Lib.hid (rshown_any t[k] wr)
        by_cases hka : k = a
        · have heq : ((k : Int) == (a : Int)) = true := by rw [hka]; simp
          have hck := Lib.hid (show colK p.data.toList t.data.toList a (k + 1) = ((rowK p.data.toList t.data.toList k).length : Int) by rw [hka]; exact colK_at _ _ _)
          clear hka
          generalize shownB t[k] = sb at *
          generalize hrk : rowK p.data.toList t.data.toList k = rk at *
          go_wp2_with (go_at_call 42; refine hS.out.mono ?_; rintro e w2 ⟨rfl, hb2⟩)
          go_roundw
          case rel => exact ⟨k + 1, by omega, by go_num, by rw [hst.out, strOf_append], by rw [hck.out], hbw.trans (hb2.mono hbw.size)⟩
          case measure => simp [intOf]; omega
        · have heq : ((k : Int) == (a : Int)) = false := by rw [beq_eq_false_iff_ne]; omega
          have hck := Lib.hid (colK_same p.data.toList t.data.toList a k hka)
          clear hka
          generalize shownB t[k] = sb at *
          generalize hrk : rowK p.data.toList t.data.toList k = rk at *
          go_wp2_with (go_at_call 42; refine hS.out.mono ?_; rintro e w2 ⟨rfl, hb2⟩)
          go_roundw
          case rel => exact ⟨k + 1, by omega, by go_num, by rw [hst.out, strOf_append], by rw [hck.out], hbw.trans (hb2.mono hbw.size)⟩
          case measure => simp [intOf]; omega
      · obtain rfl : k = t.size := by omega
        have hC : colV p.data.toList t.data.toList a = (rowK p.data.toList t.data.toList a).length := rfl
        have hCl := HA.out a
        rw [← hC] at hCl
        obtain ⟨W, rfl⟩ := Int.eq_ofNat_of_zero_le (show 0 ≤ wide by omega)
        have hm := Lib.hid (show (leftV p.data.toList t.data.toList a W : Int) = max ((colV p.data.toList t.data.toList a : Int) - W + 1) 0 by unfold leftV; omega)
        have hCR : colV p.data.toList t.data.toList a ≤ (rowK p.data.toList t.data.toList t.size).length := by
          unfold colV rowK
          rw [List.length_append, List.length_append, List.length_flatMap, List.length_flatMap, List.take_of_length_le (l := t.data.toList) (i := t.size) (by rw [size_toList]; omega)]
          have h := List.take_append_drop a t.data.toList
          have : ((t.data.toList.take a ++ t.data.toList.drop a).map fun x => (shownB x).length).sum = (t.data.toList.map fun x => (shownB x).length).sum := by rw [h]
          rw [List.map_append, List.sum_append] at this
          omega
        generalize leftV p.data.toList t.data.toList a W = m at *
        have hmC : m ≤ colV p.data.toList t.data.toList a := by have := hm.out; omega
        by_cases hae : a = t.size
        · have heq : ((a : Int) == (t.size : Int)) = true := by rw [hae]; simp
          have hck : (rowK p.data.toList t.data.toList t.size).length = colV p.data.toList t.data.toList a := by rw [hC, hae]
          clear hC hae
          generalize colK p.data.toList t.data.toList a t.size = c0 at *
          generalize colV p.data.toList t.data.toList a = C at *
          generalize hR : rowK p.data.toList t.data.toList t.size = R at *
          subst hck
          by_cases hge : (W : Int) ≤ R.length
          · have hm3 : (R.length : Int) - W + 1 = m := by have := hm.out; omega
            go_wp2_with fail
            refine (Tryd.strings_TrimRight_one _ 32 (by decide) _ (by rw [cutS_size]; omega)).mono ?_
            rintro e w2 ⟨he, hw2⟩
            rw [cutS] at he
            subst he; subst hw2
            go_wp2
            go_ret3
            exact ⟨viewR_of (by rw [hfin.out, Int.toNat_natCast, show (W : Int) - 1 = R.length - m by omega]), HW1.out.trans (hbw.mono HW1.out.size)⟩
          · obtain rfl : m = 0 := by have := hm.out; omega
            go_wp2_with fail
            refine (Tryd.strings_TrimRight_one _ 32 (by decide) _ (by rw [cutT_size]; omega)).mono ?_
            rintro e w2 ⟨he, hw2⟩
            rw [cutT] at he
            subst he; subst hw2
            go_wp2
            go_ret3
            exact ⟨viewR_of (by rw [hfin.out, Int.toNat_natCast, List.drop_zero]; simp), HW1.out.trans (hbw.mono HW1.out.size)⟩
        · have heq : ((a : Int) == (t.size : Int)) = false := by rw [beq_eq_false_iff_ne]; omega
          have hck : colK p.data.toList t.data.toList a t.size = (colV p.data.toList t.data.toList a : Int) := by unfold colK; rw [if_pos (by omega)]
          rw [hck]
          clear hck hC hae
          generalize colV p.data.toList t.data.toList a = C at *
          generalize hR : rowK p.data.toList t.data.toList t.size = R at *
          by_cases hge : (W : Int) ≤ C
          · have hm3 : (C : Int) - W + 1 = m := by have := hm.out; omega
            go_wp2_with fail
            refine (Tryd.strings_TrimRight_one _ 32 (by decide) _ (by rw [cutS_size]; omega)).mono ?_
            rintro e w2 ⟨he, hw2⟩
            rw [cutS] at he
            subst he; subst hw2
            go_wp2
            go_ret3
            exact ⟨viewR_of (by rw [hfin.out, Int.toNat_natCast, show (W : Int) - 1 = C - m by omega]), HW1.out.trans (hbw.mono HW1.out.size)⟩
          · obtain rfl : m = 0 := by have := hm.out; omega
            go_wp2_with fail
            refine (Tryd.strings_TrimRight_one _ 32 (by decide) _ (by rw [cutT_size]; omega)).mono ?_
            rintro e w2 ⟨he, hw2⟩
            rw [cutT] at he
            subst he; subst hw2
            go_wp2
            go_ret3
            exact ⟨viewR_of (by rw [hfin.out, Int.toNat_natCast, List.drop_zero]; simp), HW1.out.trans (hbw.mono HW1.out.size)⟩

theorem rview_any (p t : ByteArray) (at' wide : Int) (w : World) (hd : Deb w) (hp : p.size ≤ maxLen) (ht : t.size ≤ maxLen) :
    Calls Tryd.prog 15 #[.string p, elV t at', .int .i64 wide] w fun e w' => e = .returned (viewR p t at' wide) ∧ Below w.heap.size w w' := by
  by_cases hx : ¬ lineE t at' = 0 ∨ rowB p.data.toList = false ∨ 200 < p.size ∨ ¬ (2 ≤ wide ∧ wide ≤ 200)
  · exact rview_err p t at' wide w hp ht hx
  · simp only [not_or, Classical.not_not, Bool.not_eq_false, Nat.not_lt] at hx
    obtain ⟨h1, h2, h3, h4, h5⟩ := hx
    have h6 : (withinB at' 0 t.size && lineB t) = true := by
      unfold lineE at h1; split at h1
      · assumption
      · cases h1
    simp only [Bool.and_eq_true, withinB, lineB, decide_eq_true_eq] at h6
    obtain ⟨a, rfl⟩ := Int.eq_ofNat_of_zero_le h6.1.1
    exact rview_main p t a wide w hd h3 h6.2.1 (by omega) h1 h2 h4 h5

end Go.Proofs.YtokmiommhfbkeaaDoor
