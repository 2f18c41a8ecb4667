/- The program's pager: shownBy (is it right? its rows) and Visible, for every pager of a text below 4 GiB. -/
import Derived.Test.YtokmiommhfbkeaaGreatDoorPagerLaw
import Derived.Test.YtokmiommhfbkeaaGreatDoorRowsI
import Derived.Test.YtokmiommhfbkeaaGreatDoorStrs
import Derived.StillTailTactics
namespace Go.Proofs.YtokmiommhfbkeaaGreatDoor
open Go.RowKit

abbrev pgC (text : ByteArray) (wide high top : Int) (sought : ByteArray) : Array Value := #[.string text, .int .i64 wide, .int .i64 high, .int .i64 top, .string sought]
abbrev PG.v (p : PG) : Value := .agg (pgC p.text p.wide p.high p.top p.sought)
theorem pager_box (w : World) (cs : Array Value) : Below w.heap.size w (w.alloc (.cells cs 26)) := (Below.refl _ w).alloc (Nat.le_refl _) _
theorem RW.drewN {w : World} {B b : Nat} {wide : Int} {x : St} (h : RW w B b wide x) (n : Nat) : RW (w.drewN n) B b wide x := h
theorem RW.keepB {w w' : World} {B b : Nat} {wide : Int} {x : St} (h : RW w B b wide x) (hb : Below w.heap.size w w') : RW w' B b wide x := by
  obtain ⟨h1, v1, v2, hk, o1, o2⟩ := h
  have hg : w.grownBy w' none := ⟨hb.os, hb.tape, hb.output, hb.size, fun k hk _ => hb.block k hk⟩
  exact ⟨h1, v1, v2, (hb.block _ (lt_of_block hk)).trans hk, o1.kept hg (by cases v1.ownBlock <;> simp), o2.kept hg (by cases v2.ownBlock <;> simp)⟩

set_option maxRecDepth 100000 in
set_option maxHeartbeats 3200000 in
theorem shownBy_any (p : PG) (w : World) (hx : MX w) (hd : Deb w) (hs : p.text.size < 4294967281) :
    Calls Tryz.prog 25 #[p.v] w (RowsP w p.wide (rowsL p.text p.wide) (pagerE p)) := by
  obtain ⟨text, wide, high, top, sought⟩ := p
  have hR := Lib.hid (rowsOf_any text wide (w.alloc (.cells (pgC text wide high top sought) 26)) (hx.keep (pager_box w _)) (hd.keep (pager_box w _)) hs)
  have hlen := (rows_len' text wide).1
  have hbx := box_new w (pgC text wide high top sought) 26
  dsimp only
  by_cases h1 : rowsE text wide = 0
  · rw [h1] at hR
    cases c1 : withinB high 1 200
    · have hfin : pagerE ⟨text, wide, high, top, sought⟩ = 3 := by simp [pagerE, h1, c1]
      rw [hfin]
      clear hfin h1
      go_enter Tryz.func25, Tryz.ntmps25
      go_wp2_with fail
      refine hR.out.mono ?_
      rintro e w1 ⟨hb, ⟨h0, _⟩ | ⟨_, b, rfl, hrw⟩⟩
      · exact absurd rfl h0
      obtain ⟨cx, lx⟩ := box_keep hbx.1 hbx.2 hb
      have HB := Lib.hid (show Below w.heap.size w w1 from (pager_box w _).trans (hb.mono (by simp)))
      have HRW := Lib.hid (hrw.mono (show w.heap.size ≤ (w.alloc (.cells (pgC text wide high top sought) 26)).heap.size by simp))
      obtain ⟨hBb, v1, v2, hk, o1, o2⟩ := hrw
      obtain ⟨A1, c1', rfl⟩ := own_form o1
      have cc : ∀ j, w1.cell? ⟨b, j, none⟩ = #[Value.int .i64 wide, .slice A1 (rowsL text wide).1.length c1', v2, Value.string ⟨(rowsL text wide).2.2.toArray⟩][j]? := fun j => by simp [World.cell?, hk]
      clear hk o1 o2 hb hR hbx hx hd hs hBb
      go_wp2_with fail
      go_quiet ((go_at_call 53; exact Calls.quiet_of_same ((within_any _ _ _ _).mono fun _ _ hh => ⟨hh.1, hh.2.symm⟩)))
      go_wp2
      go_ret2
      exact ⟨below_drewN HB.out _, .inl ⟨by decide, rfl⟩⟩
    · have hh : 1 ≤ high ∧ high ≤ 200 := by simpa [withinB] using c1
      have hsub : IntKind.i64.wrap (((rowsL text wide).1.length : Int) - high) = ((rowsL text wide).1.length : Int) - high := IntWalk.i64_in _ (by omega)
      cases c2 : withinB top 0 (max (((rowsL text wide).1.length : Int) - high) 0)
      · have hfin : pagerE ⟨text, wide, high, top, sought⟩ = 3 := by simp only [pagerE, PG.most, PG.rows, h1, c1, c2, if_true, Bool.true_and, Bool.false_eq_true, if_false]
        rw [hfin]
        clear hfin h1
        go_enter Tryz.func25, Tryz.ntmps25
        go_wp2_with fail
        refine hR.out.mono ?_
        rintro e w1 ⟨hb, ⟨h0, _⟩ | ⟨_, b, rfl, hrw⟩⟩
        · exact absurd rfl h0
        obtain ⟨cx, lx⟩ := box_keep hbx.1 hbx.2 hb
        have HB := Lib.hid (show Below w.heap.size w w1 from (pager_box w _).trans (hb.mono (by simp)))
        have HRW := Lib.hid (hrw.mono (show w.heap.size ≤ (w.alloc (.cells (pgC text wide high top sought) 26)).heap.size by simp))
        obtain ⟨hBb, v1, v2, hk, o1, o2⟩ := hrw
        obtain ⟨A1, c1', rfl⟩ := own_form o1
        have cc : ∀ j, w1.cell? ⟨b, j, none⟩ = #[Value.int .i64 wide, .slice A1 (rowsL text wide).1.length c1', v2, Value.string ⟨(rowsL text wide).2.2.toArray⟩][j]? := fun j => by simp [World.cell?, hk]
        clear hk o1 o2 hb hR hbx hx hd hs hBb
        go_wp2_with fail
        go_quiet ((go_at_call 53; exact Calls.quiet_of_same ((within_any _ _ _ _).mono fun _ _ hh => ⟨hh.1, hh.2.symm⟩)))
        go_wp2
        go_ret2
        exact ⟨below_drewN HB.out _, .inl ⟨by decide, rfl⟩⟩
      · by_cases c3 : 200 < sought.size
        · have c3b : decide ((200 : Int) < sought.size) = true := by rw [decide_eq_true_iff]; omega
          have hfin : pagerE ⟨text, wide, high, top, sought⟩ = 2 := by simp only [pagerE, PG.most, PG.rows, h1, c1, c2, if_true, Bool.and_true]; rw [if_pos c3]
          rw [hfin]
          clear hfin h1
          go_enter Tryz.func25, Tryz.ntmps25
          go_wp2_with fail
          refine hR.out.mono ?_
          rintro e w1 ⟨hb, ⟨h0, _⟩ | ⟨_, b, rfl, hrw⟩⟩
          · exact absurd rfl h0
          obtain ⟨cx, lx⟩ := box_keep hbx.1 hbx.2 hb
          have HB := Lib.hid (show Below w.heap.size w w1 from (pager_box w _).trans (hb.mono (by simp)))
          have HRW := Lib.hid (hrw.mono (show w.heap.size ≤ (w.alloc (.cells (pgC text wide high top sought) 26)).heap.size by simp))
          obtain ⟨hBb, v1, v2, hk, o1, o2⟩ := hrw
          obtain ⟨A1, c1', rfl⟩ := own_form o1
          have cc : ∀ j, w1.cell? ⟨b, j, none⟩ = #[Value.int .i64 wide, .slice A1 (rowsL text wide).1.length c1', v2, Value.string ⟨(rowsL text wide).2.2.toArray⟩][j]? := fun j => by simp [World.cell?, hk]
          clear hk o1 o2 hb hR hbx hx hd hs hBb
          go_wp2_with fail
          go_quiet ((go_at_call 53; exact Calls.quiet_of_same ((within_any _ _ _ _).mono fun _ _ hh => ⟨hh.1, hh.2.symm⟩)))
          go_wp2
          go_ret2
          exact ⟨below_drewN HB.out _, .inl ⟨by decide, rfl⟩⟩
        · have c3b : decide ((200 : Int) < sought.size) = false := by rw [decide_eq_false_iff_not]; omega
          have hfin : pagerE ⟨text, wide, high, top, sought⟩ = 0 := by simp only [pagerE, PG.most, PG.rows, h1, c1, c2, if_true, Bool.and_true]; rw [if_neg c3]
          rw [hfin]
          clear hfin h1
          go_enter Tryz.func25, Tryz.ntmps25
          go_wp2_with fail
          refine hR.out.mono ?_
          rintro e w1 ⟨hb, ⟨h0, _⟩ | ⟨_, b, rfl, hrw⟩⟩
          · exact absurd rfl h0
          obtain ⟨cx, lx⟩ := box_keep hbx.1 hbx.2 hb
          have HB := Lib.hid (show Below w.heap.size w w1 from (pager_box w _).trans (hb.mono (by simp)))
          have HRW := Lib.hid (hrw.mono (show w.heap.size ≤ (w.alloc (.cells (pgC text wide high top sought) 26)).heap.size by simp))
          obtain ⟨hBb, v1, v2, hk, o1, o2⟩ := hrw
          obtain ⟨A1, c1', rfl⟩ := own_form o1
          have cc : ∀ j, w1.cell? ⟨b, j, none⟩ = #[Value.int .i64 wide, .slice A1 (rowsL text wide).1.length c1', v2, Value.string ⟨(rowsL text wide).2.2.toArray⟩][j]? := fun j => by simp [World.cell?, hk]
          clear hk o1 o2 hb hR hbx hx hd hs hBb
          go_wp2_with fail
          go_quiet ((go_at_call 53; exact Calls.quiet_of_same ((within_any _ _ _ _).mono fun _ _ hh => ⟨hh.1, hh.2.symm⟩)))
          go_wp2
          go_ret2
          exact ⟨below_drewN HB.out _, .inr ⟨rfl, _, rfl, HRW.out.drewN _⟩⟩
  · have hfin : pagerE ⟨text, wide, high, top, sought⟩ = rowsE text wide := by simp [pagerE, h1]
    rw [hfin]
    have hne : (rowsE text wide == 0) = false := by rw [beq_eq_false_iff_ne]; exact h1
    have H1 := Lib.hid h1
    clear hfin h1
    generalize rowsE text wide = E at *
    go_enter Tryz.func25, Tryz.ntmps25
    go_wp2_with fail
    refine hR.out.mono ?_
    rintro e w1 ⟨hb, ⟨_, rfl⟩ | ⟨h0, _⟩⟩
    · have HB := Lib.hid (show Below w.heap.size w w1 from (pager_box w _).trans (hb.mono (by simp)))
      clear hb hR hbx hx hd hs
      go_wp2
      go_ret2
      exact ⟨HB.out, .inl ⟨H1.out, rfl⟩⟩
    · exact absurd h0 H1.out

end Go.Proofs.YtokmiommhfbkeaaGreatDoor
