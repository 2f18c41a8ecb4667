/- The reference's pager: pagerForm (is it right? its rows), for every pager of a text below 4 GiB. -/
import Derived.Test.YtokmiommhfbkeaaGreatDoorPagerB
import Derived.Test.YtokmiommhfbkeaaGreatDoorRowsRefB
namespace Go.Proofs.YtokmiommhfbkeaaGreatDoor
open Go.RowKit

/-- what pagerForm hands back -/
def FormT (w : World) (p : PG) (e : Ending) (w' : World) : Prop :=
  Below w.heap.size w w' ∧ ∃ v1 v2, e = .returned (.tuple #[v1, v2, .int .i64 (pagerE p)]) ∧ (pagerE p = 0 → SL w' v1 p.rows ∧ IL w' v2 p.nums)

set_option maxRecDepth 100000 in
set_option maxHeartbeats 3200000 in
theorem pagerForm_any (p : PG) (w : World) (hx : MX w) (hs : p.text.size < 4294967281) :
    Calls Tryz.prog 28 #[p.v] w (FormT w p) := by
  obtain ⟨text, wide, high, top, sought⟩ := p
  have hR := Lib.hid (rrows_any text wide (w.alloc (.cells (pgC text wide high top sought) 26)) (hx.keep (pager_box w _)) hs)
  have hlen := (rows_len' text wide).1
  have hbx := box_new w (pgC text wide high top sought) 26

  unfold FormT
  by_cases h1 : rowsE text wide = 0
  · rw [h1] at hR
    by_cases a1 : high < 1
    · have a1b : decide (high < 1) = true := decide_eq_true a1
      have hfin : pagerE ⟨text, wide, high, top, sought⟩ = 3 := by simp [pagerE, PG.most, PG.rows, withinB, h1]; omega
      rw [hfin]
      clear hfin h1
      go_enter Tryz.func28, Tryz.ntmps28
      go_wp2_with fail
      refine hR.out.mono ?_
      rintro e w1 ⟨hb, v1, v2, rfl, hs1, hi2⟩
      obtain ⟨cx, lx⟩ := box_keep hbx.1 hbx.2 hb
      have HB := Lib.hid (show Below w.heap.size w w1 from (pager_box w _).trans (hb.mono (by simp)))
      obtain ⟨A1, c1', rfl, hcap1, hcell1⟩ := hs1
      have HS := Lib.hid (show SL w1 (.slice A1 (rowsL text wide).1.length c1') (rowsL text wide).1 from ⟨A1, c1', rfl, hcap1, hcell1⟩)
      have HI := Lib.hid hi2
      clear hb hR hbx hx hs hcap1 hcell1 hi2
      go_wp2
      go_ret3
      exact ⟨HB.out, _, _, rfl, fun h => by cases h⟩
    have a1b : decide (high < 1) = false := decide_eq_false a1
    by_cases a2 : 200 < high
    · have a2b : decide (200 < high) = true := decide_eq_true a2
      have hfin : pagerE ⟨text, wide, high, top, sought⟩ = 3 := by simp [pagerE, PG.most, PG.rows, withinB, h1]; omega
      rw [hfin]
      clear hfin h1
      go_enter Tryz.func28, Tryz.ntmps28
      go_wp2_with fail
      refine hR.out.mono ?_
      rintro e w1 ⟨hb, v1, v2, rfl, hs1, hi2⟩
      obtain ⟨cx, lx⟩ := box_keep hbx.1 hbx.2 hb
      have HB := Lib.hid (show Below w.heap.size w w1 from (pager_box w _).trans (hb.mono (by simp)))
      obtain ⟨A1, c1', rfl, hcap1, hcell1⟩ := hs1
      have HS := Lib.hid (show SL w1 (.slice A1 (rowsL text wide).1.length c1') (rowsL text wide).1 from ⟨A1, c1', rfl, hcap1, hcell1⟩)
      have HI := Lib.hid hi2
      clear hb hR hbx hx hs hcap1 hcell1 hi2
      go_wp2
      go_ret3
      exact ⟨HB.out, _, _, rfl, fun h => by cases h⟩
    have a2b : decide (200 < high) = false := decide_eq_false a2
    by_cases a3 : top < 0
    · have a3b : decide (top < 0) = true := decide_eq_true a3
      have hfin : pagerE ⟨text, wide, high, top, sought⟩ = 3 := by simp [pagerE, PG.most, PG.rows, withinB, h1]; omega
      rw [hfin]
      clear hfin h1
      go_enter Tryz.func28, Tryz.ntmps28
      go_wp2_with fail
      refine hR.out.mono ?_
      rintro e w1 ⟨hb, v1, v2, rfl, hs1, hi2⟩
      obtain ⟨cx, lx⟩ := box_keep hbx.1 hbx.2 hb
      have HB := Lib.hid (show Below w.heap.size w w1 from (pager_box w _).trans (hb.mono (by simp)))
      obtain ⟨A1, c1', rfl, hcap1, hcell1⟩ := hs1
      have HS := Lib.hid (show SL w1 (.slice A1 (rowsL text wide).1.length c1') (rowsL text wide).1 from ⟨A1, c1', rfl, hcap1, hcell1⟩)
      have HI := Lib.hid hi2
      clear hb hR hbx hx hs hcap1 hcell1 hi2
      go_wp2
      go_ret3
      exact ⟨HB.out, _, _, rfl, fun h => by cases h⟩
    have a3b : decide (top < 0) = false := decide_eq_false a3
    have hsub : IntKind.i64.wrap (((rowsL text wide).1.length : Int) - high) = ((rowsL text wide).1.length : Int) - high := IntWalk.i64_in _ (by omega)
    by_cases hm : ((rowsL text wide).1.length : Int) - high < 0
    · have hmx : max (((rowsL text wide).1.length : Int) - high) 0 = 0 := by omega
      by_cases a4 : 0 < top
      · have a4b : decide (0 < top) = true := decide_eq_true a4
        have hfin : pagerE ⟨text, wide, high, top, sought⟩ = 3 := by simp only [pagerE, PG.most, PG.rows, withinB, h1, hmx, if_true]; rw [if_neg]; simp; omega
        rw [hfin]
        clear hfin h1
        go_enter Tryz.func28, Tryz.ntmps28
        go_wp2_with fail
        refine hR.out.mono ?_
        rintro e w1 ⟨hb, v1, v2, rfl, hs1, hi2⟩
        obtain ⟨cx, lx⟩ := box_keep hbx.1 hbx.2 hb
        have HB := Lib.hid (show Below w.heap.size w w1 from (pager_box w _).trans (hb.mono (by simp)))
        obtain ⟨A1, c1', rfl, hcap1, hcell1⟩ := hs1
        have HS := Lib.hid (show SL w1 (.slice A1 (rowsL text wide).1.length c1') (rowsL text wide).1 from ⟨A1, c1', rfl, hcap1, hcell1⟩)
        have HI := Lib.hid hi2
        clear hb hR hbx hx hs hcap1 hcell1 hi2
        go_wp2
        go_ret3
        exact ⟨HB.out, _, _, rfl, fun h => by cases h⟩
      have a4b : decide (0 < top) = false := decide_eq_false a4
      by_cases a5 : 200 < sought.size
      · have a5b : decide ((200 : Int) < sought.size) = true := by rw [decide_eq_true_iff]; omega
        have hfin : pagerE ⟨text, wide, high, top, sought⟩ = 2 := by simp only [pagerE, PG.most, PG.rows, withinB, h1, hmx, if_true]; rw [if_pos (by simp; omega), if_pos a5]
        rw [hfin]
        clear hfin h1
        go_enter Tryz.func28, Tryz.ntmps28
        go_wp2_with fail
        refine hR.out.mono ?_
        rintro e w1 ⟨hb, v1, v2, rfl, hs1, hi2⟩
        obtain ⟨cx, lx⟩ := box_keep hbx.1 hbx.2 hb
        have HB := Lib.hid (show Below w.heap.size w w1 from (pager_box w _).trans (hb.mono (by simp)))
        obtain ⟨A1, c1', rfl, hcap1, hcell1⟩ := hs1
        have HS := Lib.hid (show SL w1 (.slice A1 (rowsL text wide).1.length c1') (rowsL text wide).1 from ⟨A1, c1', rfl, hcap1, hcell1⟩)
        have HI := Lib.hid hi2
        clear hb hR hbx hx hs hcap1 hcell1 hi2
        go_wp2
        go_ret3
        exact ⟨HB.out, _, _, rfl, fun h => by cases h⟩
      · have a5b : decide ((200 : Int) < sought.size) = false := by rw [decide_eq_false_iff_not]; omega
        have hfin : pagerE ⟨text, wide, high, top, sought⟩ = 0 := by simp only [pagerE, PG.most, PG.rows, withinB, h1, hmx, if_true]; rw [if_pos (by simp; omega), if_neg a5]
        rw [hfin]
        clear hfin h1
        go_enter Tryz.func28, Tryz.ntmps28
        go_wp2_with fail
        refine hR.out.mono ?_
        rintro e w1 ⟨hb, v1, v2, rfl, hs1, hi2⟩
        obtain ⟨cx, lx⟩ := box_keep hbx.1 hbx.2 hb
        have HB := Lib.hid (show Below w.heap.size w w1 from (pager_box w _).trans (hb.mono (by simp)))
        obtain ⟨A1, c1', rfl, hcap1, hcell1⟩ := hs1
        have HS := Lib.hid (show SL w1 (.slice A1 (rowsL text wide).1.length c1') (rowsL text wide).1 from ⟨A1, c1', rfl, hcap1, hcell1⟩)
        have HI := Lib.hid hi2
        clear hb hR hbx hx hs hcap1 hcell1 hi2
        go_wp2
        go_ret3
        exact ⟨HB.out, _, _, rfl, fun _ => ⟨HS.out, HI.out⟩⟩
    · have hmx : max (((rowsL text wide).1.length : Int) - high) 0 = ((rowsL text wide).1.length : Int) - high := by omega
      by_cases a4 : ((rowsL text wide).1.length : Int) - high < top
      · have a4b : decide (((rowsL text wide).1.length : Int) - high < top) = true := decide_eq_true a4
        have hfin : pagerE ⟨text, wide, high, top, sought⟩ = 3 := by simp only [pagerE, PG.most, PG.rows, withinB, h1, hmx, if_true]; rw [if_neg]; simp; omega
        rw [hfin]
        clear hfin h1
        go_enter Tryz.func28, Tryz.ntmps28
        go_wp2_with fail
        refine hR.out.mono ?_
        rintro e w1 ⟨hb, v1, v2, rfl, hs1, hi2⟩
        obtain ⟨cx, lx⟩ := box_keep hbx.1 hbx.2 hb
        have HB := Lib.hid (show Below w.heap.size w w1 from (pager_box w _).trans (hb.mono (by simp)))
        obtain ⟨A1, c1', rfl, hcap1, hcell1⟩ := hs1
        have HS := Lib.hid (show SL w1 (.slice A1 (rowsL text wide).1.length c1') (rowsL text wide).1 from ⟨A1, c1', rfl, hcap1, hcell1⟩)
        have HI := Lib.hid hi2
        clear hb hR hbx hx hs hcap1 hcell1 hi2
        go_wp2
        go_ret3
        exact ⟨HB.out, _, _, rfl, fun h => by cases h⟩
      have a4b : decide (((rowsL text wide).1.length : Int) - high < top) = false := decide_eq_false a4
      by_cases a5 : 200 < sought.size
      · have a5b : decide ((200 : Int) < sought.size) = true := by rw [decide_eq_true_iff]; omega
        have hfin : pagerE ⟨text, wide, high, top, sought⟩ = 2 := by simp only [pagerE, PG.most, PG.rows, withinB, h1, hmx, if_true]; rw [if_pos (by simp; omega), if_pos a5]
        rw [hfin]
        clear hfin h1
        go_enter Tryz.func28, Tryz.ntmps28
        go_wp2_with fail
        refine hR.out.mono ?_
        rintro e w1 ⟨hb, v1, v2, rfl, hs1, hi2⟩
        obtain ⟨cx, lx⟩ := box_keep hbx.1 hbx.2 hb
        have HB := Lib.hid (show Below w.heap.size w w1 from (pager_box w _).trans (hb.mono (by simp)))
        obtain ⟨A1, c1', rfl, hcap1, hcell1⟩ := hs1
        have HS := Lib.hid (show SL w1 (.slice A1 (rowsL text wide).1.length c1') (rowsL text wide).1 from ⟨A1, c1', rfl, hcap1, hcell1⟩)
        have HI := Lib.hid hi2
        clear hb hR hbx hx hs hcap1 hcell1 hi2
        go_wp2
        go_ret3
        exact ⟨HB.out, _, _, rfl, fun h => by cases h⟩
      · have a5b : decide ((200 : Int) < sought.size) = false := by rw [decide_eq_false_iff_not]; omega
        have hfin : pagerE ⟨text, wide, high, top, sought⟩ = 0 := by simp only [pagerE, PG.most, PG.rows, withinB, h1, hmx, if_true]; rw [if_pos (by simp; omega), if_neg a5]
        rw [hfin]
        clear hfin h1
        go_enter Tryz.func28, Tryz.ntmps28
        go_wp2_with fail
        refine hR.out.mono ?_
        rintro e w1 ⟨hb, v1, v2, rfl, hs1, hi2⟩
        obtain ⟨cx, lx⟩ := box_keep hbx.1 hbx.2 hb
        have HB := Lib.hid (show Below w.heap.size w w1 from (pager_box w _).trans (hb.mono (by simp)))
        obtain ⟨A1, c1', rfl, hcap1, hcell1⟩ := hs1
        have HS := Lib.hid (show SL w1 (.slice A1 (rowsL text wide).1.length c1') (rowsL text wide).1 from ⟨A1, c1', rfl, hcap1, hcell1⟩)
        have HI := Lib.hid hi2
        clear hb hR hbx hx hs hcap1 hcell1 hi2
        go_wp2
        go_ret3
        exact ⟨HB.out, _, _, rfl, fun _ => ⟨HS.out, HI.out⟩⟩
  · have hfin : pagerE ⟨text, wide, high, top, sought⟩ = rowsE text wide := by simp [pagerE, h1]
    rw [hfin]
    have hne : (rowsE text wide == 0) = false := by rw [beq_eq_false_iff_ne]; exact h1
    have H1 := Lib.hid h1
    clear hfin h1
    generalize rowsE text wide = E at *
    go_enter Tryz.func28, Tryz.ntmps28
    go_wp2_with fail
    refine hR.out.mono ?_
    rintro e w1 ⟨hb, v1, v2, rfl, hs1, hi2⟩
    obtain ⟨cx, lx⟩ := box_keep hbx.1 hbx.2 hb
    have HB := Lib.hid (show Below w.heap.size w w1 from (pager_box w _).trans (hb.mono (by simp)))
    obtain ⟨A1, c1', rfl, hcap1, hcell1⟩ := hs1
    have HS := Lib.hid (show SL w1 (.slice A1 (rowsL text wide).1.length c1') (rowsL text wide).1 from ⟨A1, c1', rfl, hcap1, hcell1⟩)
    have HI := Lib.hid hi2
    clear hb hR hbx hx hs hcap1 hcell1 hi2
    go_wp2
    go_ret3
    exact ⟨HB.out, _, _, rfl, fun h => absurd h H1.out⟩

end Go.Proofs.YtokmiommhfbkeaaGreatDoor
