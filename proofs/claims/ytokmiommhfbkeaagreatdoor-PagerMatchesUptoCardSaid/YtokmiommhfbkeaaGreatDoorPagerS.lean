/- The program's search in a pager: the first row of the next line that holds a text. -/
import Derived.Test.YtokmiommhfbkeaaGreatDoorPagerV
namespace Go.Proofs.YtokmiommhfbkeaaGreatDoor
open Go.RowKit

theorem index_any (l : List Int) (v : Value) (x : Int) (w : World) (hv : IL w v l) (hn : l.length ≤ 9223372036854775807) :
    Calls Tryz.prog 71 #[v, .int .i64 x] w fun e w' => e = .returned (.int .i64 (Lib.idxOf l x)) ∧ w' = w := by
  obtain ⟨A, c, rfl, _, h⟩ := hv
  by_cases h0 : 0 < l.length
  · obtain ⟨b, off, rfl, _, hcell⟩ := h h0
    exact (Tryz.slices_Index_int b off l.length c l x w (Nat.le_refl _) hn (fun j hj => by rw [hcell j hj]; simp [hj])).mono fun e w' ⟨he, hw⟩ => ⟨by rw [he, List.take_length], hw⟩
  · obtain rfl : l = [] := List.length_eq_zero_iff.1 (by omega)
    exact Tryz.slices_Index_int_empty A c x w
theorem contains_any (s q : ByteArray) (w : World) (hx : MX w) (hs : s.size < 4294967281) :
    Calls Tryz.prog 70 #[.string s, .string q] w fun e w' => e = .returned (.bool (Lib.contains s.data.toList q.data.toList)) ∧ w' = w := by
  obtain ⟨m, hm⟩ := hx
  exact Tryz.strings_Contains s q m w hs hm
theorem findL_hit {ls : List ByteArray} {q : ByteArray} {step : Int} {f m : Nat} (hm : m < ls.length) (h : Lib.contains ls[m].data.toList q.data.toList = true) : findL ls q step (f + 1) m = m := by
  unfold findL
  rw [if_pos ⟨by omega, by omega⟩, if_pos (by rw [Int.toNat_natCast, getD_at hm]; exact h)]
theorem findL_miss {ls : List ByteArray} {q : ByteArray} {step : Int} {f m : Nat} (hm : m < ls.length) (h : Lib.contains ls[m].data.toList q.data.toList = false) : findL ls q step (f + 1) m = findL ls q step f (m + step) := by
  rw [findL, if_pos ⟨by omega, by omega⟩, if_neg (by rw [Int.toNat_natCast, getD_at hm]; simp [h])]
theorem findL_out {ls : List ByteArray} {q : ByteArray} {step : Int} {f : Nat} {n : Int} (h : ¬ (0 ≤ n ∧ n < ls.length)) : findL ls q step f n = -1 := by
  cases f with
  | zero => rfl
  | succ f => rw [findL, if_neg h]

set_option maxRecDepth 100000 in
set_option maxHeartbeats 3200000 in
theorem sought_any (p : PG) (q : ByteArray) (step : Int) (hst : step = 1 ∨ step = -1) (b B : Nat) (w : World) (hrw : RW w B b p.wide (rowsL p.text p.wide)) (hg : PGood p) (hx : MX w) :
    Calls Tryz.prog 27 #[.pointer (some ⟨b, 0, none⟩), .agg (pgC p.text p.wide p.high p.top q), .int .i64 step] w fun e w' => e = .returned (.int .i64 (soughtL p q step)) ∧ Below w.heap.size w w' := by
  have hsm := hg.small
  have hL0 := textLines_any p.text (w.alloc (.cells (pgC p.text p.wide p.high p.top q) 26)) (hx.keep (pager_box w _)) (by omega)
  rw [show largeB p.text = false by simp [largeB]; omega, show sizedE p.text = 0 by simp [sizedE, largeB]; omega] at hL0
  simp only [Bool.false_eq_true, if_false] at hL0
  have hL := Lib.hid hL0
  clear hL0
  have hbx := box_new w (pgC p.text p.wide p.high p.top q) 26
  have HX := Lib.hid hx
  obtain ⟨hBb, v1, v2, hk, o1, o2⟩ := hrw
  obtain ⟨A2, c2, rfl⟩ := own_form o2
  have HI := Lib.hid (IL.of_own o2)
  have hbl : b < w.heap.size := lt_of_block hk
  have ccw : ∀ j, w.cell? ⟨b, j, none⟩ = #[Value.int .i64 p.wide, v1, .slice A2 (rowsL p.text p.wide).2.1.length c2, Value.string ⟨(rowsL p.text p.wide).2.2.toArray⟩][j]? := fun j => by simp [World.cell?, hk]
  have hnl := (rows_len' p.text p.wide).2
  clear hx hk o1 o2
  by_cases hz : (linesL p.text).length = 0
  · have hfin : soughtL p q step = -1 := by unfold soughtL; rw [if_pos (.inl hz)]
    rw [hfin]
    have hln : linesL p.text = [] := List.length_eq_zero_iff.1 hz
    rw [hln] at hL
    clear hfin hz hln hnl hsm ccw hbl
    go_enter Tryz.func27, Tryz.ntmps27
    go_wp2_with fail
    refine hL.out.mono ?_
    rintro e w1 ⟨v, rfl, ⟨A, c, rfl, hc, hcell⟩, hb⟩
    have HB := Lib.hid (show Below w.heap.size w w1 from (pager_box w _).trans (hb.mono (by simp)))
    clear hb hL hbx hc hcell
    go_wp2
    go_ret
    exact ⟨rfl, HB.out⟩
  cases hq : q.toList.isEmpty
  · have hzb : (((linesL p.text).length : Int) == 0) = false := by rw [beq_eq_false_iff_ne]; omega
    obtain ⟨ht1, _, hn0, hn1⟩ := hg.at_top (by omega)
    obtain ⟨k, hk⟩ : ∃ k : Nat, p.top = (k : Int) := ⟨p.top.toNat, by have := hg.top.1; omega⟩
    obtain ⟨R, hR⟩ : ∃ R, soughtN p q step = R := ⟨_, rfl⟩
    have hfin : soughtL p q step = if R < 0 then -1 else Lib.idxOf p.nums R := by unfold soughtL; rw [if_neg (by rw [hq]; simp; exact fun h => hz (by rw [h]; rfl)), hR]
    have hsz := lines_size p.text
    unfold soughtN at hR
    obtain ⟨V, hV⟩ : ∃ V, (if R < 0 then -1 else Lib.idxOf p.nums R) = V := ⟨_, rfl⟩
    rw [hfin, hV]
    rw [hk, Int.toNat_natCast] at ht1 hR hn0 hn1
    rw [hk] at hbx hL ⊢
    have hnums : (rowsL p.text p.wide).2.1 = p.nums := rfl
    rw [hnums] at ccw HI hnl
    generalize p.nums = nums at *
    have HV := Lib.hid hV
    clear hV
    have hgd : nums.getD k 0 = nums[k] := by rw [List.getD_eq_getElem?_getD, List.getElem?_eq_getElem ht1]; rfl
    rw [hgd] at hR hn0 hn1
    clear hfin hz hgd
    obtain ⟨m0, hm0⟩ : ∃ m0 : Nat, nums[k] = (m0 : Int) := ⟨nums[k].toNat, by omega⟩
    rw [hm0] at hR hn0 hn1
    have hcn : ∃ b2 off2, A2 = some ⟨b2, off2, none⟩ ∧ b2 < w.heap.size ∧ w.cell? ⟨b2, off2 + k, none⟩ = some (.int .i64 m0) := by
      obtain ⟨A', c', e, _, h⟩ := HI.out
      injection e with e1 e2 e3
      subst e1
      obtain ⟨b2, off2, rfl, hl2, hcell⟩ := h (by omega)
      exact ⟨b2, off2, rfl, hl2, by rw [hcell k ht1, hm0]⟩
    obtain ⟨b2, off2, rfl, hl2, hck⟩ := hcn
    generalize linesL p.text = l at *
    rcases hst with rfl | rfl
    · have e1 : IntKind.i64.wrap ((m0 : Int) + 1) = (m0 : Int) + 1 := IntWalk.i64_in _ (by omega)
      go_enter Tryz.func27, Tryz.ntmps27
      go_wp2_with fail
      refine hL.out.mono ?_
      rintro e w1 ⟨v, rfl, ⟨A, c, rfl, hc, hcell⟩, hb⟩
      obtain ⟨cx, lx⟩ := box_keep hbx.1 hbx.2 hb
      have hbw : Below w.heap.size w w1 := (pager_box w _).trans (hb.mono (by simp))
      have HB := Lib.hid hbw
      have hck1 : w1.cell? ⟨b2, off2 + k, none⟩ = some (.int .i64 m0) := (hbw.cell (p := ⟨b2, off2 + k, none⟩) hl2).trans hck
      have cc1 := fun j => (hbw.cell (p := ⟨b, j, none⟩) hbl).trans (ccw j)
      have lb : b < w1.heap.size := Nat.lt_of_lt_of_le hbl hbw.size
      have HI1 := Lib.hid (HI.out.keep hbw)
      have HX1 := Lib.hid (HX.out.keep hbw)
      have hlp : 0 < l.length := by omega
      obtain ⟨b3, off3, rfl, hl3, hcell⟩ := hcell hlp
      have HC := Lib.hid hcell
      have HR := Lib.hid hR
      have HSZ := Lib.hid hsz
      clear hb hL hbx hcell hck ccw hbw hm0 hR hk hnums hBb hsz
      go_wp2_with fail
      go_quiet (fail)
      go_wp2_with fail
      go_loopw [9] (fun i wr => ∃ (n : Int) (f : Nat), i = .int .i64 n ∧ Below w1.heap.size w1 wr ∧ Hid (findL l q (1) f n = R) ∧ l.length - n ≤ f ∧ -1 ≤ n ∧ n ≤ l.length) (fun i _ => (l.length - intOf i).toNat)
      case atStart => exact ⟨_, l.length, rfl, below_drewN (Below.refl _ w1) _, HR.out, by omega, by omega, by omega⟩
      case round =>
        obtain ⟨n, f, rfl, hbw, HF, hf, hn1', hn2'⟩ := hrel
        have hsub : IntKind.i64.wrap ((l.length : Int) - 1) = (l.length : Int) - 1 := IntWalk.i64_in _ (by omega)
        by_cases hin : 0 ≤ n ∧ n < l.length
        · obtain ⟨m, rfl⟩ : ∃ m : Nat, n = (m : Int) := ⟨n.toNat, by omega⟩
          have hml : m < l.length := by omega
          obtain ⟨f, rfl⟩ : ∃ f', f = f' + 1 := ⟨f - 1, by omega⟩
          have hwi : withinB (m : Int) 0 ((l.length : Int) - 1) = true := by simp [withinB]; omega
          have h7 : wr.cell? ⟨b3, off3 + m, none⟩ = some (.string l[m]) := (hbw.cell (p := ⟨b3, off3 + m, none⟩) hl3).trans (HC.out m hml)
          have h4 : wr.cell? ⟨w.heap.size, 4, none⟩ = some (.string q) := (hbw.cell (p := ⟨w.heap.size, 4, none⟩) lx).trans (cx 4)
          have h2 : wr.cell? ⟨b, 2, none⟩ = some (.slice (some ⟨b2, off2, none⟩) nums.length c2) := (hbw.cell (p := ⟨b, 2, none⟩) lb).trans (cc1 2)
          have e2 : IntKind.i64.wrap ((m : Int) + 1) = (m : Int) + 1 := IntWalk.i64_in _ (by omega)
          have HIr := Lib.hid (HI1.out.keep hbw)
          have HXr := Lib.hid (HX1.out.keep hbw)
          have HBr := Lib.hid hbw
          have hs7 : l[m].size < 4294967281 := by have := HSZ.out _ (List.getElem_mem hml); omega
          clear hck1 cc1 cx hin hbw
          cases hcn : Lib.contains l[m].data.toList q.data.toList
          · have HF2 := Lib.hid ((findL_miss (f := f) (step := 1) hml hcn).symm.trans HF.out)
            have HCC := Lib.hid (fun W (h : MX W) => (contains_any l[m] q W h hs7).mono fun e w' hh => show e = .returned (.bool false) ∧ w' = W from ⟨by rw [hh.1, hcn], hh.2⟩)
            clear hcn
            go_wp2_with (go_at_call 53; refine (within_any _ _ _ _).mono ?_; rintro e w' ⟨rfl, rfl⟩)
            go_quiet ((go_at_call 70; exact Calls.quiet_of_same (HCC.out _ HXr.out)))
            go_wp2_with fail
            go_roundw
            case rel => exact ⟨(m : Int) + (1), f, rfl, below_drewN HBr.out _, HF2.out, by omega, by omega, by omega⟩
            case measure => simp [intOf]; omega
          · have HF2 := Lib.hid ((findL_hit (f := f) (step := 1) hml hcn).symm.trans HF.out)
            have HCC := Lib.hid (fun W (h : MX W) => (contains_any l[m] q W h hs7).mono fun e w' hh => show e = .returned (.bool true) ∧ w' = W from ⟨by rw [hh.1, hcn], hh.2⟩)
            clear hcn
            go_wp2_with (go_at_call 53; refine (within_any _ _ _ _).mono ?_; rintro e w' ⟨rfl, rfl⟩)
            go_quiet ((go_at_call 70; exact Calls.quiet_of_same (HCC.out _ HXr.out)))
            go_wp2_with fail
            refine (index_any nums _ m _ (by exact HIr.out) (by omega)).mono ?_
            rintro e w' ⟨rfl, hw⟩
            subst hw
            go_wp2
            go_ret
            exact ⟨ret_int (by rw [← HV.out, ← HF2.out]; exact (if_neg (by omega)).symm), HB.out.trans ((below_drewN HBr.out _).mono HB.out.size)⟩
        · have hwi : withinB n 0 ((l.length : Int) - 1) = false := by simp [withinB]; omega
          have hfo := (findL_out (f := f) (q := q) (step := 1) hin).symm.trans HF.out
          subst hfo
          have hV := HV.out
          rw [if_pos (by decide)] at hV
          subst hV
          clear HV
          have HBr := Lib.hid hbw
          clear hck1 cc1 cx hin hbw
          go_wp2_with (go_at_call 53; refine (within_any _ _ _ _).mono ?_; rintro e w' ⟨rfl, rfl⟩)
          go_ret
          exact ⟨rfl, HB.out.trans (HBr.out.mono HB.out.size)⟩
    · have e1 : IntKind.i64.wrap ((m0 : Int) + -1) = (m0 : Int) + -1 := IntWalk.i64_in _ (by omega)
      go_enter Tryz.func27, Tryz.ntmps27
      go_wp2_with fail
      refine hL.out.mono ?_
      rintro e w1 ⟨v, rfl, ⟨A, c, rfl, hc, hcell⟩, hb⟩
      obtain ⟨cx, lx⟩ := box_keep hbx.1 hbx.2 hb
      have hbw : Below w.heap.size w w1 := (pager_box w _).trans (hb.mono (by simp))
      have HB := Lib.hid hbw
      have hck1 : w1.cell? ⟨b2, off2 + k, none⟩ = some (.int .i64 m0) := (hbw.cell (p := ⟨b2, off2 + k, none⟩) hl2).trans hck
      have cc1 := fun j => (hbw.cell (p := ⟨b, j, none⟩) hbl).trans (ccw j)
      have lb : b < w1.heap.size := Nat.lt_of_lt_of_le hbl hbw.size
      have HI1 := Lib.hid (HI.out.keep hbw)
      have HX1 := Lib.hid (HX.out.keep hbw)
      have hlp : 0 < l.length := by omega
      obtain ⟨b3, off3, rfl, hl3, hcell⟩ := hcell hlp
      have HC := Lib.hid hcell
      have HR := Lib.hid hR
      have HSZ := Lib.hid hsz
      clear hb hL hbx hcell hck ccw hbw hm0 hR hk hnums hBb hsz
      go_wp2_with fail
      go_quiet (fail)
      go_wp2_with fail
      go_loopw [9] (fun i wr => ∃ (n : Int) (f : Nat), i = .int .i64 n ∧ Below w1.heap.size w1 wr ∧ Hid (findL l q (-1) f n = R) ∧ n + 1 ≤ f ∧ -1 ≤ n ∧ n ≤ l.length) (fun i _ => (intOf i + 1).toNat)
      case atStart => exact ⟨_, l.length, rfl, below_drewN (Below.refl _ w1) _, HR.out, by omega, by omega, by omega⟩
      case round =>
        obtain ⟨n, f, rfl, hbw, HF, hf, hn1', hn2'⟩ := hrel
        have hsub : IntKind.i64.wrap ((l.length : Int) - 1) = (l.length : Int) - 1 := IntWalk.i64_in _ (by omega)
        by_cases hin : 0 ≤ n ∧ n < l.length
        · obtain ⟨m, rfl⟩ : ∃ m : Nat, n = (m : Int) := ⟨n.toNat, by omega⟩
          have hml : m < l.length := by omega
          obtain ⟨f, rfl⟩ : ∃ f', f = f' + 1 := ⟨f - 1, by omega⟩
          have hwi : withinB (m : Int) 0 ((l.length : Int) - 1) = true := by simp [withinB]; omega
          have h7 : wr.cell? ⟨b3, off3 + m, none⟩ = some (.string l[m]) := (hbw.cell (p := ⟨b3, off3 + m, none⟩) hl3).trans (HC.out m hml)
          have h4 : wr.cell? ⟨w.heap.size, 4, none⟩ = some (.string q) := (hbw.cell (p := ⟨w.heap.size, 4, none⟩) lx).trans (cx 4)
          have h2 : wr.cell? ⟨b, 2, none⟩ = some (.slice (some ⟨b2, off2, none⟩) nums.length c2) := (hbw.cell (p := ⟨b, 2, none⟩) lb).trans (cc1 2)
          have e2 : IntKind.i64.wrap ((m : Int) + -1) = (m : Int) + -1 := IntWalk.i64_in _ (by omega)
          have HIr := Lib.hid (HI1.out.keep hbw)
          have HXr := Lib.hid (HX1.out.keep hbw)
          have HBr := Lib.hid hbw
          have hs7 : l[m].size < 4294967281 := by have := HSZ.out _ (List.getElem_mem hml); omega
          clear hck1 cc1 cx hin hbw
          cases hcn : Lib.contains l[m].data.toList q.data.toList
          · have HF2 := Lib.hid ((findL_miss (f := f) (step := -1) hml hcn).symm.trans HF.out)
            have HCC := Lib.hid (fun W (h : MX W) => (contains_any l[m] q W h hs7).mono fun e w' hh => show e = .returned (.bool false) ∧ w' = W from ⟨by rw [hh.1, hcn], hh.2⟩)
            clear hcn
            go_wp2_with (go_at_call 53; refine (within_any _ _ _ _).mono ?_; rintro e w' ⟨rfl, rfl⟩)
            go_quiet ((go_at_call 70; exact Calls.quiet_of_same (HCC.out _ HXr.out)))
            go_wp2_with fail
            go_roundw
            case rel => exact ⟨(m : Int) + (-1), f, rfl, below_drewN HBr.out _, HF2.out, by omega, by omega, by omega⟩
            case measure => simp [intOf]; omega
          · have HF2 := Lib.hid ((findL_hit (f := f) (step := -1) hml hcn).symm.trans HF.out)
            have HCC := Lib.hid (fun W (h : MX W) => (contains_any l[m] q W h hs7).mono fun e w' hh => show e = .returned (.bool true) ∧ w' = W from ⟨by rw [hh.1, hcn], hh.2⟩)
            clear hcn
            go_wp2_with (go_at_call 53; refine (within_any _ _ _ _).mono ?_; rintro e w' ⟨rfl, rfl⟩)
            go_quiet ((go_at_call 70; exact Calls.quiet_of_same (HCC.out _ HXr.out)))
            go_wp2_with fail
            refine (index_any nums _ m _ (by exact HIr.out) (by omega)).mono ?_
            rintro e w' ⟨rfl, hw⟩
            subst hw
            go_wp2
            go_ret
            exact ⟨ret_int (by rw [← HV.out, ← HF2.out]; exact (if_neg (by omega)).symm), HB.out.trans ((below_drewN HBr.out _).mono HB.out.size)⟩
        · have hwi : withinB n 0 ((l.length : Int) - 1) = false := by simp [withinB]; omega
          have hfo := (findL_out (f := f) (q := q) (step := -1) hin).symm.trans HF.out
          subst hfo
          have hV := HV.out
          rw [if_pos (by decide)] at hV
          subst hV
          clear HV
          have HBr := Lib.hid hbw
          clear hck1 cc1 cx hin hbw
          go_wp2_with (go_at_call 53; refine (within_any _ _ _ _).mono ?_; rintro e w' ⟨rfl, rfl⟩)
          go_ret
          exact ⟨rfl, HB.out.trans (HBr.out.mono HB.out.size)⟩
  · have hfin : soughtL p q step = -1 := by unfold soughtL; rw [if_pos (.inr hq)]
    rw [hfin]
    have hzb : (((linesL p.text).length : Int) == 0) = false := by rw [beq_eq_false_iff_ne]; omega
    clear hfin hz hnl hsm ccw hbl
    go_enter Tryz.func27, Tryz.ntmps27
    go_wp2_with fail
    refine hL.out.mono ?_
    rintro e w1 ⟨v, rfl, ⟨A, c, rfl, hc, hcell⟩, hb⟩
    obtain ⟨cx, lx⟩ := box_keep hbx.1 hbx.2 hb
    have HB := Lib.hid (show Below w.heap.size w w1 from (pager_box w _).trans (hb.mono (by simp)))
    clear hb hL hbx hc hcell
    go_wp2
    go_ret
    exact ⟨rfl, HB.out⟩

end Go.Proofs.YtokmiommhfbkeaaGreatDoor
