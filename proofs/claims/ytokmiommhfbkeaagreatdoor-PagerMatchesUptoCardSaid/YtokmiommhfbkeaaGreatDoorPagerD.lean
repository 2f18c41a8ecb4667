/- The program's Scroll at the keys that search, and at keys that are none; Scroll for every pager and key. -/
import Derived.Test.YtokmiommhfbkeaaGreatDoorPagerC
namespace Go.Proofs.YtokmiommhfbkeaaGreatDoor
open Go.RowKit

set_option maxRecDepth 100000 in
set_option maxHeartbeats 3200000 in
theorem scroll_other (p : PG) (key : ByteArray) (w : World) (hx : MX w) (hd : Deb w) (hs : p.text.size < 4294967281) (h0 : pagerE p = 0) (f106 : (key.toList == [106]) = false) (f107 : (key.toList == [107]) = false) (f32 : (key.toList == [32]) = false) (f98 : (key.toList == [98]) = false) (f100 : (key.toList == [100]) = false) (f117 : (key.toList == [117]) = false) (f103 : (key.toList == [103]) = false) (f71 : (key.toList == [71]) = false) (f110 : (key.toList == [110]) = false) (f78 : (key.toList == [78]) = false) (hsl : slashB key = false) (hfin : scrollL p key = (zeroPG, 4)) :
    Calls Tryz.prog 9 #[p.v, .string key] w (ScrollT w (scrollL p key)) := by
  have hS := Lib.hid (shownBy_any p ((w.alloc (.cells (pgC p.text p.wide p.high p.top p.sought) 26)).alloc (.cells zeroP 26)) (hx.keep (two_below' w _ _)) (hd.keep (two_below' w _ _)) hs)
  have HX := Lib.hid hx
  have hg := pgood h0
  rw [h0] at hS
  obtain ⟨k, m, hk, hm, hkl, hm1, hm2, hor⟩ := hi_of hg
  have hlen : p.rows.length ≤ 4000000000000 := (rows_len' p.text p.wide).1
  have HPF := Lib.hid (fun W => (Tryz.strings_HasPrefix key ⟨#[47]⟩ W).mono fun e w' hh => show e = .returned (.bool false) ∧ w' = W from ⟨by rw [hh.1]; exact ret_bool hsl, hh.2⟩)
  clear hsl
  rw [hfin]
  clear hfin
  have HG := Lib.hid hg
  have hsub : IntKind.i64.wrap ((p.rows.length : Int) - (m : Int)) = (p.rows.length : Int) - (m : Int) := IntWalk.i64_in _ (by omega)
  have hdv : Int.tdiv (m : Int) 2 = (m : Int) / 2 := Int.tdiv_eq_ediv_of_nonneg (by omega)
  have hmost : p.most = max ((p.rows.length : Int) - (m : Int)) 0 := by unfold PG.most; rw [hm]
  obtain ⟨x2, x4⟩ := two_bx w (pgC p.text p.wide p.high p.top p.sought) zeroP
  have X2 := Lib.hid x2
  have X4 := Lib.hid x4
  have hrows : (rowsL p.text p.wide).1 = p.rows := rfl
  clear h0 x2 x4 hx hd hs hor hkl hg
  obtain ⟨text, wide, high, top, sought⟩ := p
  dsimp only at *
  subst hk
  subst hm
  have HROWS := Lib.hid hrows
  have HMOST := Lib.hid hmost
  clear hrows hmost
  generalize PG.rows ⟨text, wide, m, k, sought⟩ = rows at *
  go_enter Tryz.func9, Tryz.ntmps9
  go_wp2_with fail
  refine hS.out.mono ?_
  rintro e w1 ⟨hb, ⟨h0, _⟩ | ⟨_, b, rfl, hrw⟩⟩
  · exact absurd rfl h0
  have HB := Lib.hid (show Below w.heap.size w w1 from (two_below' w _ _).trans (hb.mono (two_below' w _ _).size))
  have K2 := Lib.hid (X2.out.keep hb)
  have K4 := Lib.hid (X4.out.keep hb)
  have HRW := Lib.hid hrw
  obtain ⟨hBb, v1, v2, hk', o1, o2⟩ := hrw
  obtain ⟨A1, c1', rfl⟩ := own_form o1
  have cc : ∀ j, w1.cell? ⟨b, j, none⟩ = #[Value.int .i64 wide, .slice A1 rows.length c1', v2, Value.string ⟨(rowsL text wide).2.2.toArray⟩][j]? := fun j => by simp [World.cell?, hk', HROWS.out]
  have lb : b < w1.heap.size := lt_of_block hk'
  obtain ⟨c2, _⟩ := K2.out.cell
  obtain ⟨c4, z4⟩ := K4.out.cell
  have l2 : w.heap.size < w1.heap.size := K2.out.lt
  have l4 : w.heap.size + 1 < w1.heap.size := K4.out.lt
  clear hk' o1 o2 hb hS X2 X4 hBb
  go_wp2_with fail
  have K8 := Lib.hid (show Bx (w1.alloc (.cells (pgC text wide m k sought) 26)) w1.heap.size (pgC text wide m k sought) from heap_alloc_new w1 _)
  have hb2 : Below w1.heap.size w1 (w1.alloc (.cells (pgC text wide m k sought) 26)) := (Below.refl _ w1).alloc (Nat.le_refl _) _
  have K22 := Lib.hid (K2.out.keep hb2)
  have K42 := Lib.hid (K4.out.keep hb2)
  have cc2 := fun j => (hb2.cell (p := ⟨b, j, none⟩) lb).trans (cc j)
  have HB2 := Lib.hid (HB.out.trans (hb2.mono HB.out.size))
  have HRW2 := Lib.hid (HRW.out.keepB hb2)
  have HL8 := Lib.hid (show w.heap.size + 1 < w1.heap.size from K4.out.lt)
  have HRWA := Lib.hid (fun n u => HRW.out.keepB (w' := ((w1.alloc (.cells (pgC text wide m k sought) 26)).drewN n).setCell ⟨w1.heap.size, 4, none⟩ u) ((below_drewN hb2 n).setCell (Nat.le_refl _) _))
  clear c2 c4 z4 cc l2 l4
  generalize w1.alloc (.cells (pgC text wide m k sought) 26) = wz at *
  generalize w1.heap.size = g8 at *
  obtain ⟨c2, _⟩ := K22.out.cell
  obtain ⟨c4, z4⟩ := K42.out.cell
  obtain ⟨c8, z8⟩ := K8.out.cell
  clear hb2 lb
  go_quiet (fail)
  have K23 := Lib.hid (K22.out.drewN nq)
  have K43 := Lib.hid (K42.out.drewN nq)
  have K83 := Lib.hid (K8.out.drewN nq)
  have HB3 := Lib.hid (below_drewN HB2.out nq)
  have HRW3 := Lib.hid (HRW2.out.drewN nq)
  have HRWS := Lib.hid (fun u => HRWA.out nq u)
  clear c2 c4 z4 c8 z8 cc2 HRWA K22 K42 K8 HB2 HRW2
  generalize wz.drewN nq = wq at *
  obtain ⟨c2, _⟩ := K23.out.cell
  obtain ⟨c4, z4⟩ := K43.out.cell
  obtain ⟨c8, z8⟩ := K83.out.cell
  have l8 := HL8.out
  have n8 : g8 ≠ w.heap.size := by omega
  have n9 : g8 ≠ w.heap.size + 1 := by omega
  clear l8
  go_wp2_with (go_at_call 26; refine (HPF.out _).mono ?_; rintro e w' ⟨rfl, rfl⟩)
  refine scroll_end (five_bx K43.out _ _ _ _ _) rfl rfl ⟨rfl, five_below HB3.out (by omega) _ _ _ _ _⟩
set_option maxRecDepth 100000 in
set_option maxHeartbeats 3200000 in
theorem scroll_large (p : PG) (key : ByteArray) (w : World) (hx : MX w) (hd : Deb w) (hs : p.text.size < 4294967281) (h0 : pagerE p = 0) (f106 : (key.toList == [106]) = false) (f107 : (key.toList == [107]) = false) (f32 : (key.toList == [32]) = false) (f98 : (key.toList == [98]) = false) (f100 : (key.toList == [100]) = false) (f117 : (key.toList == [117]) = false) (f103 : (key.toList == [103]) = false) (f71 : (key.toList == [71]) = false) (f110 : (key.toList == [110]) = false) (f78 : (key.toList == [78]) = false) (hsl : slashB key = true) (hlg : 201 < key.size) (hkl : key.size ≤ 9223372036854775807) (hfin : scrollL p key = (zeroPG, 2)) :
    Calls Tryz.prog 9 #[p.v, .string key] w (ScrollT w (scrollL p key)) := by
  have hS := Lib.hid (shownBy_any p ((w.alloc (.cells (pgC p.text p.wide p.high p.top p.sought) 26)).alloc (.cells zeroP 26)) (hx.keep (two_below' w _ _)) (hd.keep (two_below' w _ _)) hs)
  have HX := Lib.hid hx
  have hg := pgood h0
  rw [h0] at hS
  obtain ⟨k, m, hk, hm, hkl, hm1, hm2, hor⟩ := hi_of hg
  have hlen : p.rows.length ≤ 4000000000000 := (rows_len' p.text p.wide).1
  have HPF := Lib.hid (fun W => (Tryz.strings_HasPrefix key ⟨#[47]⟩ W).mono fun e w' hh => show e = .returned (.bool true) ∧ w' = W from ⟨by rw [hh.1]; exact ret_bool hsl, hh.2⟩)
  clear hsl
  have hl1 : decide ((200 : Int) < (key.size : Int) - 1) = true := by rw [decide_eq_true_iff]; omega
  have hl2 : IntKind.i64.wrap ((key.size : Int) - 1) = (key.size : Int) - 1 := IntWalk.i64_in _ (by omega)
  rw [hfin]
  clear hfin
  have HG := Lib.hid hg
  have hsub : IntKind.i64.wrap ((p.rows.length : Int) - (m : Int)) = (p.rows.length : Int) - (m : Int) := IntWalk.i64_in _ (by omega)
  have hdv : Int.tdiv (m : Int) 2 = (m : Int) / 2 := Int.tdiv_eq_ediv_of_nonneg (by omega)
  have hmost : p.most = max ((p.rows.length : Int) - (m : Int)) 0 := by unfold PG.most; rw [hm]
  obtain ⟨x2, x4⟩ := two_bx w (pgC p.text p.wide p.high p.top p.sought) zeroP
  have X2 := Lib.hid x2
  have X4 := Lib.hid x4
  have hrows : (rowsL p.text p.wide).1 = p.rows := rfl
  clear h0 x2 x4 hx hd hs hor hkl hg
  obtain ⟨text, wide, high, top, sought⟩ := p
  dsimp only at *
  subst hk
  subst hm
  have HROWS := Lib.hid hrows
  have HMOST := Lib.hid hmost
  clear hrows hmost
  generalize PG.rows ⟨text, wide, m, k, sought⟩ = rows at *
  go_enter Tryz.func9, Tryz.ntmps9
  go_wp2_with fail
  refine hS.out.mono ?_
  rintro e w1 ⟨hb, ⟨h0, _⟩ | ⟨_, b, rfl, hrw⟩⟩
  · exact absurd rfl h0
  have HB := Lib.hid (show Below w.heap.size w w1 from (two_below' w _ _).trans (hb.mono (two_below' w _ _).size))
  have K2 := Lib.hid (X2.out.keep hb)
  have K4 := Lib.hid (X4.out.keep hb)
  have HRW := Lib.hid hrw
  obtain ⟨hBb, v1, v2, hk', o1, o2⟩ := hrw
  obtain ⟨A1, c1', rfl⟩ := own_form o1
  have cc : ∀ j, w1.cell? ⟨b, j, none⟩ = #[Value.int .i64 wide, .slice A1 rows.length c1', v2, Value.string ⟨(rowsL text wide).2.2.toArray⟩][j]? := fun j => by simp [World.cell?, hk', HROWS.out]
  have lb : b < w1.heap.size := lt_of_block hk'
  obtain ⟨c2, _⟩ := K2.out.cell
  obtain ⟨c4, z4⟩ := K4.out.cell
  have l2 : w.heap.size < w1.heap.size := K2.out.lt
  have l4 : w.heap.size + 1 < w1.heap.size := K4.out.lt
  clear hk' o1 o2 hb hS X2 X4 hBb
  go_wp2_with fail
  have K8 := Lib.hid (show Bx (w1.alloc (.cells (pgC text wide m k sought) 26)) w1.heap.size (pgC text wide m k sought) from heap_alloc_new w1 _)
  have hb2 : Below w1.heap.size w1 (w1.alloc (.cells (pgC text wide m k sought) 26)) := (Below.refl _ w1).alloc (Nat.le_refl _) _
  have K22 := Lib.hid (K2.out.keep hb2)
  have K42 := Lib.hid (K4.out.keep hb2)
  have cc2 := fun j => (hb2.cell (p := ⟨b, j, none⟩) lb).trans (cc j)
  have HB2 := Lib.hid (HB.out.trans (hb2.mono HB.out.size))
  have HRW2 := Lib.hid (HRW.out.keepB hb2)
  have HL8 := Lib.hid (show w.heap.size + 1 < w1.heap.size from K4.out.lt)
  have HRWA := Lib.hid (fun n u => HRW.out.keepB (w' := ((w1.alloc (.cells (pgC text wide m k sought) 26)).drewN n).setCell ⟨w1.heap.size, 4, none⟩ u) ((below_drewN hb2 n).setCell (Nat.le_refl _) _))
  clear c2 c4 z4 cc l2 l4
  generalize w1.alloc (.cells (pgC text wide m k sought) 26) = wz at *
  generalize w1.heap.size = g8 at *
  obtain ⟨c2, _⟩ := K22.out.cell
  obtain ⟨c4, z4⟩ := K42.out.cell
  obtain ⟨c8, z8⟩ := K8.out.cell
  clear hb2 lb
  go_quiet (fail)
  have K23 := Lib.hid (K22.out.drewN nq)
  have K43 := Lib.hid (K42.out.drewN nq)
  have K83 := Lib.hid (K8.out.drewN nq)
  have HB3 := Lib.hid (below_drewN HB2.out nq)
  have HRW3 := Lib.hid (HRW2.out.drewN nq)
  have HRWS := Lib.hid (fun u => HRWA.out nq u)
  clear c2 c4 z4 c8 z8 cc2 HRWA K22 K42 K8 HB2 HRW2
  generalize wz.drewN nq = wq at *
  obtain ⟨c2, _⟩ := K23.out.cell
  obtain ⟨c4, z4⟩ := K43.out.cell
  obtain ⟨c8, z8⟩ := K83.out.cell
  have l8 := HL8.out
  have n8 : g8 ≠ w.heap.size := by omega
  have n9 : g8 ≠ w.heap.size + 1 := by omega
  clear l8
  go_wp2_with (go_at_call 26; refine (HPF.out _).mono ?_; rintro e w' ⟨rfl, rfl⟩)
  refine scroll_end (five_bx K43.out _ _ _ _ _) rfl rfl ⟨rfl, five_below HB3.out (by omega) _ _ _ _ _⟩
set_option maxRecDepth 100000 in
set_option maxHeartbeats 3200000 in
theorem scroll_n_no (p : PG) (key : ByteArray) (w : World) (hx : MX w) (hd : Deb w) (hs : p.text.size < 4294967281) (h0 : pagerE p = 0) (f106 : (key.toList == [106]) = false) (f107 : (key.toList == [107]) = false) (f32 : (key.toList == [32]) = false) (f98 : (key.toList == [98]) = false) (f100 : (key.toList == [100]) = false) (f117 : (key.toList == [117]) = false) (f103 : (key.toList == [103]) = false) (f71 : (key.toList == [71]) = false) (f110 : (key.toList == [110]) = true) (hfin : scrollL p key = seekTo p p.sought (1)) (hsg : soughtL p p.sought (1) < 0) :
    Calls Tryz.prog 9 #[p.v, .string key] w (ScrollT w (scrollL p key)) := by
  have hS := Lib.hid (shownBy_any p ((w.alloc (.cells (pgC p.text p.wide p.high p.top p.sought) 26)).alloc (.cells zeroP 26)) (hx.keep (two_below' w _ _)) (hd.keep (two_below' w _ _)) hs)
  have HX := Lib.hid hx
  have hg := pgood h0
  rw [h0] at hS
  obtain ⟨k, m, hk, hm, hkl, hm1, hm2, hor⟩ := hi_of hg
  have hlen : p.rows.length ≤ 4000000000000 := (rows_len' p.text p.wide).1
  obtain ⟨S, hSe⟩ : ∃ S, soughtL p p.sought (1) = S := ⟨_, rfl⟩
  have HSO := Lib.hid (fun W b B (h : RW W B b p.wide (rowsL p.text p.wide)) (hx' : MX W) => by
    have := sought_any p p.sought (1) (.inl rfl) b B W h (pgood h0) hx'
    rw [hSe] at this
    exact this)
  have hfin : scrollL p key = (p, 8) := by rw [hfin]; unfold seekTo; rw [hSe, if_pos (by rw [← hSe]; exact hsg)]
  have hsd : S < 0 := by rw [← hSe]; exact hsg
  have hsdb : decide (S < 0) = true := by first | exact decide_eq_true hsd | exact decide_eq_false hsd
  clear hSe hsg
  rw [hfin]
  clear hfin
  have HG := Lib.hid hg
  have hsub : IntKind.i64.wrap ((p.rows.length : Int) - (m : Int)) = (p.rows.length : Int) - (m : Int) := IntWalk.i64_in _ (by omega)
  have hdv : Int.tdiv (m : Int) 2 = (m : Int) / 2 := Int.tdiv_eq_ediv_of_nonneg (by omega)
  have hmost : p.most = max ((p.rows.length : Int) - (m : Int)) 0 := by unfold PG.most; rw [hm]
  obtain ⟨x2, x4⟩ := two_bx w (pgC p.text p.wide p.high p.top p.sought) zeroP
  have X2 := Lib.hid x2
  have X4 := Lib.hid x4
  have hrows : (rowsL p.text p.wide).1 = p.rows := rfl
  clear h0 x2 x4 hx hd hs hor hkl hg
  obtain ⟨text, wide, high, top, sought⟩ := p
  dsimp only at *
  subst hk
  subst hm
  have HROWS := Lib.hid hrows
  have HMOST := Lib.hid hmost
  clear hrows hmost
  generalize PG.rows ⟨text, wide, m, k, sought⟩ = rows at *
  go_enter Tryz.func9, Tryz.ntmps9
  go_wp2_with fail
  refine hS.out.mono ?_
  rintro e w1 ⟨hb, ⟨h0, _⟩ | ⟨_, b, rfl, hrw⟩⟩
  · exact absurd rfl h0
  have HB := Lib.hid (show Below w.heap.size w w1 from (two_below' w _ _).trans (hb.mono (two_below' w _ _).size))
  have K2 := Lib.hid (X2.out.keep hb)
  have K4 := Lib.hid (X4.out.keep hb)
  have HRW := Lib.hid hrw
  obtain ⟨hBb, v1, v2, hk', o1, o2⟩ := hrw
  obtain ⟨A1, c1', rfl⟩ := own_form o1
  have cc : ∀ j, w1.cell? ⟨b, j, none⟩ = #[Value.int .i64 wide, .slice A1 rows.length c1', v2, Value.string ⟨(rowsL text wide).2.2.toArray⟩][j]? := fun j => by simp [World.cell?, hk', HROWS.out]
  have lb : b < w1.heap.size := lt_of_block hk'
  obtain ⟨c2, _⟩ := K2.out.cell
  obtain ⟨c4, z4⟩ := K4.out.cell
  have l2 : w.heap.size < w1.heap.size := K2.out.lt
  have l4 : w.heap.size + 1 < w1.heap.size := K4.out.lt
  clear hk' o1 o2 hb hS X2 X4 hBb
  go_wp2_with fail
  have K8 := Lib.hid (show Bx (w1.alloc (.cells (pgC text wide m k sought) 26)) w1.heap.size (pgC text wide m k sought) from heap_alloc_new w1 _)
  have hb2 : Below w1.heap.size w1 (w1.alloc (.cells (pgC text wide m k sought) 26)) := (Below.refl _ w1).alloc (Nat.le_refl _) _
  have K22 := Lib.hid (K2.out.keep hb2)
  have K42 := Lib.hid (K4.out.keep hb2)
  have cc2 := fun j => (hb2.cell (p := ⟨b, j, none⟩) lb).trans (cc j)
  have HB2 := Lib.hid (HB.out.trans (hb2.mono HB.out.size))
  have HRW2 := Lib.hid (HRW.out.keepB hb2)
  have HL8 := Lib.hid (show w.heap.size + 1 < w1.heap.size from K4.out.lt)
  have HRWA := Lib.hid (fun n u => HRW.out.keepB (w' := ((w1.alloc (.cells (pgC text wide m k sought) 26)).drewN n).setCell ⟨w1.heap.size, 4, none⟩ u) ((below_drewN hb2 n).setCell (Nat.le_refl _) _))
  clear c2 c4 z4 cc l2 l4
  generalize w1.alloc (.cells (pgC text wide m k sought) 26) = wz at *
  generalize w1.heap.size = g8 at *
  obtain ⟨c2, _⟩ := K22.out.cell
  obtain ⟨c4, z4⟩ := K42.out.cell
  obtain ⟨c8, z8⟩ := K8.out.cell
  clear hb2 lb
  go_quiet (fail)
  have K23 := Lib.hid (K22.out.drewN nq)
  have K43 := Lib.hid (K42.out.drewN nq)
  have K83 := Lib.hid (K8.out.drewN nq)
  have HB3 := Lib.hid (below_drewN HB2.out nq)
  have HRW3 := Lib.hid (HRW2.out.drewN nq)
  have HRWS := Lib.hid (fun u => HRWA.out nq u)
  clear c2 c4 z4 c8 z8 cc2 HRWA K22 K42 K8 HB2 HRW2
  generalize wz.drewN nq = wq at *
  obtain ⟨c2, _⟩ := K23.out.cell
  obtain ⟨c4, z4⟩ := K43.out.cell
  obtain ⟨c8, z8⟩ := K83.out.cell
  have l8 := HL8.out
  have n8 : g8 ≠ w.heap.size := by omega
  have n9 : g8 ≠ w.heap.size + 1 := by omega
  clear l8
  go_wp2_with fail
  refine (HSO.out _ b _ (by exact HRW3.out) (by exact HX.out.keep HB3.out)).mono ?_
  rintro e w5 ⟨rfl, hb5⟩
  have K25 := Lib.hid (K23.out.keep hb5)
  have K45 := Lib.hid (K43.out.keep hb5)
  have K85 := Lib.hid (K83.out.keep hb5)
  have HB5 := Lib.hid ((HB3.out).trans (hb5.mono (HB3.out).size))
  clear hb5 c2 c4 z4 c8 z8
  obtain ⟨c2, _⟩ := K25.out.cell
  obtain ⟨c4, z4⟩ := K45.out.cell
  obtain ⟨c8, z8⟩ := K85.out.cell
  go_wp2_with fail
  refine scroll_end (five_bx (K45.out.far (Ne.symm n9) 3 _) _ _ _ _ _) rfl rfl ⟨rfl, five_below (HB5.out.setCell (by have := HL8.out; exact (by omega : w.heap.size ≤ g8)) _) (by omega) _ _ _ _ _⟩
set_option maxRecDepth 100000 in
set_option maxHeartbeats 3200000 in
theorem scroll_n_yes (p : PG) (key : ByteArray) (w : World) (hx : MX w) (hd : Deb w) (hs : p.text.size < 4294967281) (h0 : pagerE p = 0) (f106 : (key.toList == [106]) = false) (f107 : (key.toList == [107]) = false) (f32 : (key.toList == [32]) = false) (f98 : (key.toList == [98]) = false) (f100 : (key.toList == [100]) = false) (f117 : (key.toList == [117]) = false) (f103 : (key.toList == [103]) = false) (f71 : (key.toList == [71]) = false) (f110 : (key.toList == [110]) = true) (hfin : scrollL p key = seekTo p p.sought (1)) (hsg : ¬ soughtL p p.sought (1) < 0) :
    Calls Tryz.prog 9 #[p.v, .string key] w (ScrollT w (scrollL p key)) := by
  have hS := Lib.hid (shownBy_any p ((w.alloc (.cells (pgC p.text p.wide p.high p.top p.sought) 26)).alloc (.cells zeroP 26)) (hx.keep (two_below' w _ _)) (hd.keep (two_below' w _ _)) hs)
  have HX := Lib.hid hx
  have hg := pgood h0
  rw [h0] at hS
  obtain ⟨k, m, hk, hm, hkl, hm1, hm2, hor⟩ := hi_of hg
  have hlen : p.rows.length ≤ 4000000000000 := (rows_len' p.text p.wide).1
  obtain ⟨S, hSe⟩ : ∃ S, soughtL p p.sought (1) = S := ⟨_, rfl⟩
  have HSO := Lib.hid (fun W b B (h : RW W B b p.wide (rowsL p.text p.wide)) (hx' : MX W) => by
    have := sought_any p p.sought (1) (.inl rfl) b B W h (pgood h0) hx'
    rw [hSe] at this
    exact this)
  have hfin : scrollL p key = ({ p with sought := p.sought, top := min (max S 0) p.most }, 0) := by rw [hfin]; unfold seekTo; rw [hSe, if_neg (by rw [← hSe]; exact hsg)]
  have hsd : ¬ S < 0 := by rw [← hSe]; exact hsg
  have hsdb : decide (S < 0) = false := by first | exact decide_eq_true hsd | exact decide_eq_false hsd
  clear hSe hsg
  rw [hfin]
  clear hfin
  have HG := Lib.hid hg
  have hsub : IntKind.i64.wrap ((p.rows.length : Int) - (m : Int)) = (p.rows.length : Int) - (m : Int) := IntWalk.i64_in _ (by omega)
  have hdv : Int.tdiv (m : Int) 2 = (m : Int) / 2 := Int.tdiv_eq_ediv_of_nonneg (by omega)
  have hmost : p.most = max ((p.rows.length : Int) - (m : Int)) 0 := by unfold PG.most; rw [hm]
  obtain ⟨x2, x4⟩ := two_bx w (pgC p.text p.wide p.high p.top p.sought) zeroP
  have X2 := Lib.hid x2
  have X4 := Lib.hid x4
  have hrows : (rowsL p.text p.wide).1 = p.rows := rfl
  clear h0 x2 x4 hx hd hs hor hkl hg
  obtain ⟨text, wide, high, top, sought⟩ := p
  dsimp only at *
  subst hk
  subst hm
  have HROWS := Lib.hid hrows
  have HMOST := Lib.hid hmost
  clear hrows hmost
  generalize PG.rows ⟨text, wide, m, k, sought⟩ = rows at *
  go_enter Tryz.func9, Tryz.ntmps9
  go_wp2_with fail
  refine hS.out.mono ?_
  rintro e w1 ⟨hb, ⟨h0, _⟩ | ⟨_, b, rfl, hrw⟩⟩
  · exact absurd rfl h0
  have HB := Lib.hid (show Below w.heap.size w w1 from (two_below' w _ _).trans (hb.mono (two_below' w _ _).size))
  have K2 := Lib.hid (X2.out.keep hb)
  have K4 := Lib.hid (X4.out.keep hb)
  have HRW := Lib.hid hrw
  obtain ⟨hBb, v1, v2, hk', o1, o2⟩ := hrw
  obtain ⟨A1, c1', rfl⟩ := own_form o1
  have cc : ∀ j, w1.cell? ⟨b, j, none⟩ = #[Value.int .i64 wide, .slice A1 rows.length c1', v2, Value.string ⟨(rowsL text wide).2.2.toArray⟩][j]? := fun j => by simp [World.cell?, hk', HROWS.out]
  have lb : b < w1.heap.size := lt_of_block hk'
  obtain ⟨c2, _⟩ := K2.out.cell
  obtain ⟨c4, z4⟩ := K4.out.cell
  have l2 : w.heap.size < w1.heap.size := K2.out.lt
  have l4 : w.heap.size + 1 < w1.heap.size := K4.out.lt
  clear hk' o1 o2 hb hS X2 X4 hBb
  go_wp2_with fail
  have K8 := Lib.hid (show Bx (w1.alloc (.cells (pgC text wide m k sought) 26)) w1.heap.size (pgC text wide m k sought) from heap_alloc_new w1 _)
  have hb2 : Below w1.heap.size w1 (w1.alloc (.cells (pgC text wide m k sought) 26)) := (Below.refl _ w1).alloc (Nat.le_refl _) _
  have K22 := Lib.hid (K2.out.keep hb2)
  have K42 := Lib.hid (K4.out.keep hb2)
  have cc2 := fun j => (hb2.cell (p := ⟨b, j, none⟩) lb).trans (cc j)
  have HB2 := Lib.hid (HB.out.trans (hb2.mono HB.out.size))
  have HRW2 := Lib.hid (HRW.out.keepB hb2)
  have HL8 := Lib.hid (show w.heap.size + 1 < w1.heap.size from K4.out.lt)
  have HRWA := Lib.hid (fun n u => HRW.out.keepB (w' := ((w1.alloc (.cells (pgC text wide m k sought) 26)).drewN n).setCell ⟨w1.heap.size, 4, none⟩ u) ((below_drewN hb2 n).setCell (Nat.le_refl _) _))
  clear c2 c4 z4 cc l2 l4
  generalize w1.alloc (.cells (pgC text wide m k sought) 26) = wz at *
  generalize w1.heap.size = g8 at *
  obtain ⟨c2, _⟩ := K22.out.cell
  obtain ⟨c4, z4⟩ := K42.out.cell
  obtain ⟨c8, z8⟩ := K8.out.cell
  clear hb2 lb
  go_quiet (fail)
  have K23 := Lib.hid (K22.out.drewN nq)
  have K43 := Lib.hid (K42.out.drewN nq)
  have K83 := Lib.hid (K8.out.drewN nq)
  have HB3 := Lib.hid (below_drewN HB2.out nq)
  have HRW3 := Lib.hid (HRW2.out.drewN nq)
  have HRWS := Lib.hid (fun u => HRWA.out nq u)
  clear c2 c4 z4 c8 z8 cc2 HRWA K22 K42 K8 HB2 HRW2
  generalize wz.drewN nq = wq at *
  obtain ⟨c2, _⟩ := K23.out.cell
  obtain ⟨c4, z4⟩ := K43.out.cell
  obtain ⟨c8, z8⟩ := K83.out.cell
  have l8 := HL8.out
  have n8 : g8 ≠ w.heap.size := by omega
  have n9 : g8 ≠ w.heap.size + 1 := by omega
  clear l8
  go_wp2_with fail
  refine (HSO.out _ b _ (by exact HRW3.out) (by exact HX.out.keep HB3.out)).mono ?_
  rintro e w5 ⟨rfl, hb5⟩
  have K25 := Lib.hid (K23.out.keep hb5)
  have K45 := Lib.hid (K43.out.keep hb5)
  have K85 := Lib.hid (K83.out.keep hb5)
  have HB5 := Lib.hid ((HB3.out).trans (hb5.mono (HB3.out).size))
  clear hb5 c2 c4 z4 c8 z8
  obtain ⟨c2, _⟩ := K25.out.cell
  obtain ⟨c4, z4⟩ := K45.out.cell
  obtain ⟨c8, z8⟩ := K85.out.cell
  go_wp2_with fail
  refine scroll_end (five_bx ((K45.out.far (Ne.symm n9) 3 _).far (Ne.symm n9) 3 _) _ _ _ _ _) rfl rfl ⟨?_, five_below ((HB5.out.setCell (by have := HL8.out; exact (by omega : w.heap.size ≤ g8)) _).setCell (by have := HL8.out; exact (by omega : w.heap.size ≤ g8)) _) (by omega) _ _ _ _ _⟩
  exact ret_pg (b := min (max S 0) (PG.most ⟨text, wide, m, k, sought⟩)) (by rw [HMOST.out]; try omega)
set_option maxRecDepth 100000 in
set_option maxHeartbeats 3200000 in
theorem scroll_N_no (p : PG) (key : ByteArray) (w : World) (hx : MX w) (hd : Deb w) (hs : p.text.size < 4294967281) (h0 : pagerE p = 0) (f106 : (key.toList == [106]) = false) (f107 : (key.toList == [107]) = false) (f32 : (key.toList == [32]) = false) (f98 : (key.toList == [98]) = false) (f100 : (key.toList == [100]) = false) (f117 : (key.toList == [117]) = false) (f103 : (key.toList == [103]) = false) (f71 : (key.toList == [71]) = false) (f110 : (key.toList == [110]) = false) (f78 : (key.toList == [78]) = true) (hfin : scrollL p key = seekTo p p.sought (-1)) (hsg : soughtL p p.sought (-1) < 0) :
    Calls Tryz.prog 9 #[p.v, .string key] w (ScrollT w (scrollL p key)) := by
  have hS := Lib.hid (shownBy_any p ((w.alloc (.cells (pgC p.text p.wide p.high p.top p.sought) 26)).alloc (.cells zeroP 26)) (hx.keep (two_below' w _ _)) (hd.keep (two_below' w _ _)) hs)
  have HX := Lib.hid hx
  have hg := pgood h0
  rw [h0] at hS
  obtain ⟨k, m, hk, hm, hkl, hm1, hm2, hor⟩ := hi_of hg
  have hlen : p.rows.length ≤ 4000000000000 := (rows_len' p.text p.wide).1
  obtain ⟨S, hSe⟩ : ∃ S, soughtL p p.sought (-1) = S := ⟨_, rfl⟩
  have HSO := Lib.hid (fun W b B (h : RW W B b p.wide (rowsL p.text p.wide)) (hx' : MX W) => by
    have := sought_any p p.sought (-1) (.inr rfl) b B W h (pgood h0) hx'
    rw [hSe] at this
    exact this)
  have hfin : scrollL p key = (p, 8) := by rw [hfin]; unfold seekTo; rw [hSe, if_pos (by rw [← hSe]; exact hsg)]
  have hsd : S < 0 := by rw [← hSe]; exact hsg
  have hsdb : decide (S < 0) = true := by first | exact decide_eq_true hsd | exact decide_eq_false hsd
  clear hSe hsg
  rw [hfin]
  clear hfin
  have HG := Lib.hid hg
  have hsub : IntKind.i64.wrap ((p.rows.length : Int) - (m : Int)) = (p.rows.length : Int) - (m : Int) := IntWalk.i64_in _ (by omega)
  have hdv : Int.tdiv (m : Int) 2 = (m : Int) / 2 := Int.tdiv_eq_ediv_of_nonneg (by omega)
  have hmost : p.most = max ((p.rows.length : Int) - (m : Int)) 0 := by unfold PG.most; rw [hm]
  obtain ⟨x2, x4⟩ := two_bx w (pgC p.text p.wide p.high p.top p.sought) zeroP
  have X2 := Lib.hid x2
  have X4 := Lib.hid x4
  have hrows : (rowsL p.text p.wide).1 = p.rows := rfl
  clear h0 x2 x4 hx hd hs hor hkl hg
  obtain ⟨text, wide, high, top, sought⟩ := p
  dsimp only at *
  subst hk
  subst hm
  have HROWS := Lib.hid hrows
  have HMOST := Lib.hid hmost
  clear hrows hmost
  generalize PG.rows ⟨text, wide, m, k, sought⟩ = rows at *
  go_enter Tryz.func9, Tryz.ntmps9
  go_wp2_with fail
  refine hS.out.mono ?_
  rintro e w1 ⟨hb, ⟨h0, _⟩ | ⟨_, b, rfl, hrw⟩⟩
  · exact absurd rfl h0
  have HB := Lib.hid (show Below w.heap.size w w1 from (two_below' w _ _).trans (hb.mono (two_below' w _ _).size))
  have K2 := Lib.hid (X2.out.keep hb)
  have K4 := Lib.hid (X4.out.keep hb)
  have HRW := Lib.hid hrw
  obtain ⟨hBb, v1, v2, hk', o1, o2⟩ := hrw
  obtain ⟨A1, c1', rfl⟩ := own_form o1
  have cc : ∀ j, w1.cell? ⟨b, j, none⟩ = #[Value.int .i64 wide, .slice A1 rows.length c1', v2, Value.string ⟨(rowsL text wide).2.2.toArray⟩][j]? := fun j => by simp [World.cell?, hk', HROWS.out]
  have lb : b < w1.heap.size := lt_of_block hk'
  obtain ⟨c2, _⟩ := K2.out.cell
  obtain ⟨c4, z4⟩ := K4.out.cell
  have l2 : w.heap.size < w1.heap.size := K2.out.lt
  have l4 : w.heap.size + 1 < w1.heap.size := K4.out.lt
  clear hk' o1 o2 hb hS X2 X4 hBb
  go_wp2_with fail
  have K8 := Lib.hid (show Bx (w1.alloc (.cells (pgC text wide m k sought) 26)) w1.heap.size (pgC text wide m k sought) from heap_alloc_new w1 _)
  have hb2 : Below w1.heap.size w1 (w1.alloc (.cells (pgC text wide m k sought) 26)) := (Below.refl _ w1).alloc (Nat.le_refl _) _
  have K22 := Lib.hid (K2.out.keep hb2)
  have K42 := Lib.hid (K4.out.keep hb2)
  have cc2 := fun j => (hb2.cell (p := ⟨b, j, none⟩) lb).trans (cc j)
  have HB2 := Lib.hid (HB.out.trans (hb2.mono HB.out.size))
  have HRW2 := Lib.hid (HRW.out.keepB hb2)
  have HL8 := Lib.hid (show w.heap.size + 1 < w1.heap.size from K4.out.lt)
  have HRWA := Lib.hid (fun n u => HRW.out.keepB (w' := ((w1.alloc (.cells (pgC text wide m k sought) 26)).drewN n).setCell ⟨w1.heap.size, 4, none⟩ u) ((below_drewN hb2 n).setCell (Nat.le_refl _) _))
  clear c2 c4 z4 cc l2 l4
  generalize w1.alloc (.cells (pgC text wide m k sought) 26) = wz at *
  generalize w1.heap.size = g8 at *
  obtain ⟨c2, _⟩ := K22.out.cell
  obtain ⟨c4, z4⟩ := K42.out.cell
  obtain ⟨c8, z8⟩ := K8.out.cell
  clear hb2 lb
  go_quiet (fail)
  have K23 := Lib.hid (K22.out.drewN nq)
  have K43 := Lib.hid (K42.out.drewN nq)
  have K83 := Lib.hid (K8.out.drewN nq)
  have HB3 := Lib.hid (below_drewN HB2.out nq)
  have HRW3 := Lib.hid (HRW2.out.drewN nq)
  have HRWS := Lib.hid (fun u => HRWA.out nq u)
  clear c2 c4 z4 c8 z8 cc2 HRWA K22 K42 K8 HB2 HRW2
  generalize wz.drewN nq = wq at *
  obtain ⟨c2, _⟩ := K23.out.cell
  obtain ⟨c4, z4⟩ := K43.out.cell
  obtain ⟨c8, z8⟩ := K83.out.cell
  have l8 := HL8.out
  have n8 : g8 ≠ w.heap.size := by omega
  have n9 : g8 ≠ w.heap.size + 1 := by omega
  clear l8
  go_wp2_with fail
  refine (HSO.out _ b _ (by exact HRW3.out) (by exact HX.out.keep HB3.out)).mono ?_
  rintro e w5 ⟨rfl, hb5⟩
  have K25 := Lib.hid (K23.out.keep hb5)
  have K45 := Lib.hid (K43.out.keep hb5)
  have K85 := Lib.hid (K83.out.keep hb5)
  have HB5 := Lib.hid ((HB3.out).trans (hb5.mono (HB3.out).size))
  clear hb5 c2 c4 z4 c8 z8
  obtain ⟨c2, _⟩ := K25.out.cell
  obtain ⟨c4, z4⟩ := K45.out.cell
  obtain ⟨c8, z8⟩ := K85.out.cell
  go_wp2_with fail
  refine scroll_end (five_bx (K45.out.far (Ne.symm n9) 3 _) _ _ _ _ _) rfl rfl ⟨rfl, five_below (HB5.out.setCell (by have := HL8.out; exact (by omega : w.heap.size ≤ g8)) _) (by omega) _ _ _ _ _⟩
set_option maxRecDepth 100000 in
set_option maxHeartbeats 3200000 in
theorem scroll_N_yes (p : PG) (key : ByteArray) (w : World) (hx : MX w) (hd : Deb w) (hs : p.text.size < 4294967281) (h0 : pagerE p = 0) (f106 : (key.toList == [106]) = false) (f107 : (key.toList == [107]) = false) (f32 : (key.toList == [32]) = false) (f98 : (key.toList == [98]) = false) (f100 : (key.toList == [100]) = false) (f117 : (key.toList == [117]) = false) (f103 : (key.toList == [103]) = false) (f71 : (key.toList == [71]) = false) (f110 : (key.toList == [110]) = false) (f78 : (key.toList == [78]) = true) (hfin : scrollL p key = seekTo p p.sought (-1)) (hsg : ¬ soughtL p p.sought (-1) < 0) :
    Calls Tryz.prog 9 #[p.v, .string key] w (ScrollT w (scrollL p key)) := by
  have hS := Lib.hid (shownBy_any p ((w.alloc (.cells (pgC p.text p.wide p.high p.top p.sought) 26)).alloc (.cells zeroP 26)) (hx.keep (two_below' w _ _)) (hd.keep (two_below' w _ _)) hs)
  have HX := Lib.hid hx
  have hg := pgood h0
  rw [h0] at hS
  obtain ⟨k, m, hk, hm, hkl, hm1, hm2, hor⟩ := hi_of hg
  have hlen : p.rows.length ≤ 4000000000000 := (rows_len' p.text p.wide).1
  obtain ⟨S, hSe⟩ : ∃ S, soughtL p p.sought (-1) = S := ⟨_, rfl⟩
  have HSO := Lib.hid (fun W b B (h : RW W B b p.wide (rowsL p.text p.wide)) (hx' : MX W) => by
    have := sought_any p p.sought (-1) (.inr rfl) b B W h (pgood h0) hx'
    rw [hSe] at this
    exact this)
  have hfin : scrollL p key = ({ p with sought := p.sought, top := min (max S 0) p.most }, 0) := by rw [hfin]; unfold seekTo; rw [hSe, if_neg (by rw [← hSe]; exact hsg)]
  have hsd : ¬ S < 0 := by rw [← hSe]; exact hsg
  have hsdb : decide (S < 0) = false := by first | exact decide_eq_true hsd | exact decide_eq_false hsd
  clear hSe hsg
  rw [hfin]
  clear hfin
  have HG := Lib.hid hg
  have hsub : IntKind.i64.wrap ((p.rows.length : Int) - (m : Int)) = (p.rows.length : Int) - (m : Int) := IntWalk.i64_in _ (by omega)
  have hdv : Int.tdiv (m : Int) 2 = (m : Int) / 2 := Int.tdiv_eq_ediv_of_nonneg (by omega)
  have hmost : p.most = max ((p.rows.length : Int) - (m : Int)) 0 := by unfold PG.most; rw [hm]
  obtain ⟨x2, x4⟩ := two_bx w (pgC p.text p.wide p.high p.top p.sought) zeroP
  have X2 := Lib.hid x2
  have X4 := Lib.hid x4
  have hrows : (rowsL p.text p.wide).1 = p.rows := rfl
  clear h0 x2 x4 hx hd hs hor hkl hg
  obtain ⟨text, wide, high, top, sought⟩ := p
  dsimp only at *
  subst hk
  subst hm
  have HROWS := Lib.hid hrows
  have HMOST := Lib.hid hmost
  clear hrows hmost
  generalize PG.rows ⟨text, wide, m, k, sought⟩ = rows at *
  go_enter Tryz.func9, Tryz.ntmps9
  go_wp2_with fail
  refine hS.out.mono ?_
  rintro e w1 ⟨hb, ⟨h0, _⟩ | ⟨_, b, rfl, hrw⟩⟩
  · exact absurd rfl h0
  have HB := Lib.hid (show Below w.heap.size w w1 from (two_below' w _ _).trans (hb.mono (two_below' w _ _).size))
  have K2 := Lib.hid (X2.out.keep hb)
  have K4 := Lib.hid (X4.out.keep hb)
  have HRW := Lib.hid hrw
  obtain ⟨hBb, v1, v2, hk', o1, o2⟩ := hrw
  obtain ⟨A1, c1', rfl⟩ := own_form o1
  have cc : ∀ j, w1.cell? ⟨b, j, none⟩ = #[Value.int .i64 wide, .slice A1 rows.length c1', v2, Value.string ⟨(rowsL text wide).2.2.toArray⟩][j]? := fun j => by simp [World.cell?, hk', HROWS.out]
  have lb : b < w1.heap.size := lt_of_block hk'
  obtain ⟨c2, _⟩ := K2.out.cell
  obtain ⟨c4, z4⟩ := K4.out.cell
  have l2 : w.heap.size < w1.heap.size := K2.out.lt
  have l4 : w.heap.size + 1 < w1.heap.size := K4.out.lt
  clear hk' o1 o2 hb hS X2 X4 hBb
  go_wp2_with fail
  have K8 := Lib.hid (show Bx (w1.alloc (.cells (pgC text wide m k sought) 26)) w1.heap.size (pgC text wide m k sought) from heap_alloc_new w1 _)
  have hb2 : Below w1.heap.size w1 (w1.alloc (.cells (pgC text wide m k sought) 26)) := (Below.refl _ w1).alloc (Nat.le_refl _) _
  have K22 := Lib.hid (K2.out.keep hb2)
  have K42 := Lib.hid (K4.out.keep hb2)
  have cc2 := fun j => (hb2.cell (p := ⟨b, j, none⟩) lb).trans (cc j)
  have HB2 := Lib.hid (HB.out.trans (hb2.mono HB.out.size))
  have HRW2 := Lib.hid (HRW.out.keepB hb2)
  have HL8 := Lib.hid (show w.heap.size + 1 < w1.heap.size from K4.out.lt)
  have HRWA := Lib.hid (fun n u => HRW.out.keepB (w' := ((w1.alloc (.cells (pgC text wide m k sought) 26)).drewN n).setCell ⟨w1.heap.size, 4, none⟩ u) ((below_drewN hb2 n).setCell (Nat.le_refl _) _))
  clear c2 c4 z4 cc l2 l4
  generalize w1.alloc (.cells (pgC text wide m k sought) 26) = wz at *
  generalize w1.heap.size = g8 at *
  obtain ⟨c2, _⟩ := K22.out.cell
  obtain ⟨c4, z4⟩ := K42.out.cell
  obtain ⟨c8, z8⟩ := K8.out.cell
  clear hb2 lb
  go_quiet (fail)
  have K23 := Lib.hid (K22.out.drewN nq)
  have K43 := Lib.hid (K42.out.drewN nq)
  have K83 := Lib.hid (K8.out.drewN nq)
  have HB3 := Lib.hid (below_drewN HB2.out nq)
  have HRW3 := Lib.hid (HRW2.out.drewN nq)
  have HRWS := Lib.hid (fun u => HRWA.out nq u)
  clear c2 c4 z4 c8 z8 cc2 HRWA K22 K42 K8 HB2 HRW2
  generalize wz.drewN nq = wq at *
  obtain ⟨c2, _⟩ := K23.out.cell
  obtain ⟨c4, z4⟩ := K43.out.cell
  obtain ⟨c8, z8⟩ := K83.out.cell
  have l8 := HL8.out
  have n8 : g8 ≠ w.heap.size := by omega
  have n9 : g8 ≠ w.heap.size + 1 := by omega
  clear l8
  go_wp2_with fail
  refine (HSO.out _ b _ (by exact HRW3.out) (by exact HX.out.keep HB3.out)).mono ?_
  rintro e w5 ⟨rfl, hb5⟩
  have K25 := Lib.hid (K23.out.keep hb5)
  have K45 := Lib.hid (K43.out.keep hb5)
  have K85 := Lib.hid (K83.out.keep hb5)
  have HB5 := Lib.hid ((HB3.out).trans (hb5.mono (HB3.out).size))
  clear hb5 c2 c4 z4 c8 z8
  obtain ⟨c2, _⟩ := K25.out.cell
  obtain ⟨c4, z4⟩ := K45.out.cell
  obtain ⟨c8, z8⟩ := K85.out.cell
  go_wp2_with fail
  refine scroll_end (five_bx ((K45.out.far (Ne.symm n9) 3 _).far (Ne.symm n9) 3 _) _ _ _ _ _) rfl rfl ⟨?_, five_below ((HB5.out.setCell (by have := HL8.out; exact (by omega : w.heap.size ≤ g8)) _).setCell (by have := HL8.out; exact (by omega : w.heap.size ≤ g8)) _) (by omega) _ _ _ _ _⟩
  exact ret_pg (b := min (max S 0) (PG.most ⟨text, wide, m, k, sought⟩)) (by rw [HMOST.out]; try omega)
set_option maxRecDepth 100000 in
set_option maxHeartbeats 3200000 in
theorem scroll_so_no (p : PG) (key : ByteArray) (w : World) (hx : MX w) (hd : Deb w) (hs : p.text.size < 4294967281) (h0 : pagerE p = 0) (f106 : (key.toList == [106]) = false) (f107 : (key.toList == [107]) = false) (f32 : (key.toList == [32]) = false) (f98 : (key.toList == [98]) = false) (f100 : (key.toList == [100]) = false) (f117 : (key.toList == [117]) = false) (f103 : (key.toList == [103]) = false) (f71 : (key.toList == [71]) = false) (f110 : (key.toList == [110]) = false) (f78 : (key.toList == [78]) = false) (hsl : slashB key = true) (hlg : ¬ 201 < key.size) (f47 : (key.toList == [47]) = true) (hfin : scrollL p key = seekTo p p.sought (1)) (hsg : soughtL p p.sought (1) < 0) :
    Calls Tryz.prog 9 #[p.v, .string key] w (ScrollT w (scrollL p key)) := by
  have hS := Lib.hid (shownBy_any p ((w.alloc (.cells (pgC p.text p.wide p.high p.top p.sought) 26)).alloc (.cells zeroP 26)) (hx.keep (two_below' w _ _)) (hd.keep (two_below' w _ _)) hs)
  have HX := Lib.hid hx
  have hg := pgood h0
  rw [h0] at hS
  obtain ⟨k, m, hk, hm, hkl, hm1, hm2, hor⟩ := hi_of hg
  have hlen : p.rows.length ≤ 4000000000000 := (rows_len' p.text p.wide).1
  have HPF := Lib.hid (fun W => (Tryz.strings_HasPrefix key ⟨#[47]⟩ W).mono fun e w' hh => show e = .returned (.bool true) ∧ w' = W from ⟨by rw [hh.1]; exact ret_bool hsl, hh.2⟩)
  clear hsl
  have hl1 : decide ((200 : Int) < (key.size : Int) - 1) = false := by rw [decide_eq_false_iff_not]; omega
  have hl2 : IntKind.i64.wrap ((key.size : Int) - 1) = (key.size : Int) - 1 := IntWalk.i64_in _ (by omega)
  obtain ⟨S, hSe⟩ : ∃ S, soughtL p p.sought (1) = S := ⟨_, rfl⟩
  have HSO := Lib.hid (fun W b B (h : RW W B b p.wide (rowsL p.text p.wide)) (hx' : MX W) => by
    have := sought_any p p.sought (1) (.inl rfl) b B W h (pgood h0) hx'
    rw [hSe] at this
    exact this)
  have hfin : scrollL p key = (p, 8) := by rw [hfin]; unfold seekTo; rw [hSe, if_pos (by rw [← hSe]; exact hsg)]
  have hsd : S < 0 := by rw [← hSe]; exact hsg
  have hsdb : decide (S < 0) = true := by first | exact decide_eq_true hsd | exact decide_eq_false hsd
  clear hSe hsg
  rw [hfin]
  clear hfin
  have HG := Lib.hid hg
  have hsub : IntKind.i64.wrap ((p.rows.length : Int) - (m : Int)) = (p.rows.length : Int) - (m : Int) := IntWalk.i64_in _ (by omega)
  have hdv : Int.tdiv (m : Int) 2 = (m : Int) / 2 := Int.tdiv_eq_ediv_of_nonneg (by omega)
  have hmost : p.most = max ((p.rows.length : Int) - (m : Int)) 0 := by unfold PG.most; rw [hm]
  obtain ⟨x2, x4⟩ := two_bx w (pgC p.text p.wide p.high p.top p.sought) zeroP
  have X2 := Lib.hid x2
  have X4 := Lib.hid x4
  have hrows : (rowsL p.text p.wide).1 = p.rows := rfl
  clear h0 x2 x4 hx hd hs hor hkl hg
  obtain ⟨text, wide, high, top, sought⟩ := p
  dsimp only at *
  subst hk
  subst hm
  have HROWS := Lib.hid hrows
  have HMOST := Lib.hid hmost
  clear hrows hmost
  generalize PG.rows ⟨text, wide, m, k, sought⟩ = rows at *
  go_enter Tryz.func9, Tryz.ntmps9
  go_wp2_with fail
  refine hS.out.mono ?_
  rintro e w1 ⟨hb, ⟨h0, _⟩ | ⟨_, b, rfl, hrw⟩⟩
  · exact absurd rfl h0
  have HB := Lib.hid (show Below w.heap.size w w1 from (two_below' w _ _).trans (hb.mono (two_below' w _ _).size))
  have K2 := Lib.hid (X2.out.keep hb)
  have K4 := Lib.hid (X4.out.keep hb)
  have HRW := Lib.hid hrw
  obtain ⟨hBb, v1, v2, hk', o1, o2⟩ := hrw
  obtain ⟨A1, c1', rfl⟩ := own_form o1
  have cc : ∀ j, w1.cell? ⟨b, j, none⟩ = #[Value.int .i64 wide, .slice A1 rows.length c1', v2, Value.string ⟨(rowsL text wide).2.2.toArray⟩][j]? := fun j => by simp [World.cell?, hk', HROWS.out]
  have lb : b < w1.heap.size := lt_of_block hk'
  obtain ⟨c2, _⟩ := K2.out.cell
  obtain ⟨c4, z4⟩ := K4.out.cell
  have l2 : w.heap.size < w1.heap.size := K2.out.lt
  have l4 : w.heap.size + 1 < w1.heap.size := K4.out.lt
  clear hk' o1 o2 hb hS X2 X4 hBb
  go_wp2_with fail
  have K8 := Lib.hid (show Bx (w1.alloc (.cells (pgC text wide m k sought) 26)) w1.heap.size (pgC text wide m k sought) from heap_alloc_new w1 _)
  have hb2 : Below w1.heap.size w1 (w1.alloc (.cells (pgC text wide m k sought) 26)) := (Below.refl _ w1).alloc (Nat.le_refl _) _
  have K22 := Lib.hid (K2.out.keep hb2)
  have K42 := Lib.hid (K4.out.keep hb2)
  have cc2 := fun j => (hb2.cell (p := ⟨b, j, none⟩) lb).trans (cc j)
  have HB2 := Lib.hid (HB.out.trans (hb2.mono HB.out.size))
  have HRW2 := Lib.hid (HRW.out.keepB hb2)
  have HL8 := Lib.hid (show w.heap.size + 1 < w1.heap.size from K4.out.lt)
  have HRWA := Lib.hid (fun n u => HRW.out.keepB (w' := ((w1.alloc (.cells (pgC text wide m k sought) 26)).drewN n).setCell ⟨w1.heap.size, 4, none⟩ u) ((below_drewN hb2 n).setCell (Nat.le_refl _) _))
  clear c2 c4 z4 cc l2 l4
  generalize w1.alloc (.cells (pgC text wide m k sought) 26) = wz at *
  generalize w1.heap.size = g8 at *
  obtain ⟨c2, _⟩ := K22.out.cell
  obtain ⟨c4, z4⟩ := K42.out.cell
  obtain ⟨c8, z8⟩ := K8.out.cell
  clear hb2 lb
  go_quiet (fail)
  have K23 := Lib.hid (K22.out.drewN nq)
  have K43 := Lib.hid (K42.out.drewN nq)
  have K83 := Lib.hid (K8.out.drewN nq)
  have HB3 := Lib.hid (below_drewN HB2.out nq)
  have HRW3 := Lib.hid (HRW2.out.drewN nq)
  have HRWS := Lib.hid (fun u => HRWA.out nq u)
  clear c2 c4 z4 c8 z8 cc2 HRWA K22 K42 K8 HB2 HRW2
  generalize wz.drewN nq = wq at *
  obtain ⟨c2, _⟩ := K23.out.cell
  obtain ⟨c4, z4⟩ := K43.out.cell
  obtain ⟨c8, z8⟩ := K83.out.cell
  have l8 := HL8.out
  have n8 : g8 ≠ w.heap.size := by omega
  have n9 : g8 ≠ w.heap.size + 1 := by omega
  clear l8
  go_wp2_with (go_at_call 26; refine (HPF.out _).mono ?_; rintro e w' ⟨rfl, rfl⟩)
  refine (HSO.out _ b _ (by exact HRW3.out) (by exact HX.out.keep HB3.out)).mono ?_
  rintro e w5 ⟨rfl, hb5⟩
  have K25 := Lib.hid (K23.out.keep hb5)
  have K45 := Lib.hid (K43.out.keep hb5)
  have K85 := Lib.hid (K83.out.keep hb5)
  have HB5 := Lib.hid ((HB3.out).trans (hb5.mono (HB3.out).size))
  clear hb5 c2 c4 z4 c8 z8
  obtain ⟨c2, _⟩ := K25.out.cell
  obtain ⟨c4, z4⟩ := K45.out.cell
  obtain ⟨c8, z8⟩ := K85.out.cell
  go_wp2_with fail
  refine scroll_end (five_bx (K45.out.far (Ne.symm n9) 3 _) _ _ _ _ _) rfl rfl ⟨rfl, five_below (HB5.out.setCell (by have := HL8.out; exact (by omega : w.heap.size ≤ g8)) _) (by omega) _ _ _ _ _⟩
set_option maxRecDepth 100000 in
set_option maxHeartbeats 3200000 in
theorem scroll_so_yes (p : PG) (key : ByteArray) (w : World) (hx : MX w) (hd : Deb w) (hs : p.text.size < 4294967281) (h0 : pagerE p = 0) (f106 : (key.toList == [106]) = false) (f107 : (key.toList == [107]) = false) (f32 : (key.toList == [32]) = false) (f98 : (key.toList == [98]) = false) (f100 : (key.toList == [100]) = false) (f117 : (key.toList == [117]) = false) (f103 : (key.toList == [103]) = false) (f71 : (key.toList == [71]) = false) (f110 : (key.toList == [110]) = false) (f78 : (key.toList == [78]) = false) (hsl : slashB key = true) (hlg : ¬ 201 < key.size) (f47 : (key.toList == [47]) = true) (hfin : scrollL p key = seekTo p p.sought (1)) (hsg : ¬ soughtL p p.sought (1) < 0) :
    Calls Tryz.prog 9 #[p.v, .string key] w (ScrollT w (scrollL p key)) := by
  have hS := Lib.hid (shownBy_any p ((w.alloc (.cells (pgC p.text p.wide p.high p.top p.sought) 26)).alloc (.cells zeroP 26)) (hx.keep (two_below' w _ _)) (hd.keep (two_below' w _ _)) hs)
  have HX := Lib.hid hx
  have hg := pgood h0
  rw [h0] at hS
  obtain ⟨k, m, hk, hm, hkl, hm1, hm2, hor⟩ := hi_of hg
  have hlen : p.rows.length ≤ 4000000000000 := (rows_len' p.text p.wide).1
  have HPF := Lib.hid (fun W => (Tryz.strings_HasPrefix key ⟨#[47]⟩ W).mono fun e w' hh => show e = .returned (.bool true) ∧ w' = W from ⟨by rw [hh.1]; exact ret_bool hsl, hh.2⟩)
  clear hsl
  have hl1 : decide ((200 : Int) < (key.size : Int) - 1) = false := by rw [decide_eq_false_iff_not]; omega
  have hl2 : IntKind.i64.wrap ((key.size : Int) - 1) = (key.size : Int) - 1 := IntWalk.i64_in _ (by omega)
  obtain ⟨S, hSe⟩ : ∃ S, soughtL p p.sought (1) = S := ⟨_, rfl⟩
  have HSO := Lib.hid (fun W b B (h : RW W B b p.wide (rowsL p.text p.wide)) (hx' : MX W) => by
    have := sought_any p p.sought (1) (.inl rfl) b B W h (pgood h0) hx'
    rw [hSe] at this
    exact this)
  have hfin : scrollL p key = ({ p with sought := p.sought, top := min (max S 0) p.most }, 0) := by rw [hfin]; unfold seekTo; rw [hSe, if_neg (by rw [← hSe]; exact hsg)]
  have hsd : ¬ S < 0 := by rw [← hSe]; exact hsg
  have hsdb : decide (S < 0) = false := by first | exact decide_eq_true hsd | exact decide_eq_false hsd
  clear hSe hsg
  rw [hfin]
  clear hfin
  have HG := Lib.hid hg
  have hsub : IntKind.i64.wrap ((p.rows.length : Int) - (m : Int)) = (p.rows.length : Int) - (m : Int) := IntWalk.i64_in _ (by omega)
  have hdv : Int.tdiv (m : Int) 2 = (m : Int) / 2 := Int.tdiv_eq_ediv_of_nonneg (by omega)
  have hmost : p.most = max ((p.rows.length : Int) - (m : Int)) 0 := by unfold PG.most; rw [hm]
  obtain ⟨x2, x4⟩ := two_bx w (pgC p.text p.wide p.high p.top p.sought) zeroP
  have X2 := Lib.hid x2
  have X4 := Lib.hid x4
  have hrows : (rowsL p.text p.wide).1 = p.rows := rfl
  clear h0 x2 x4 hx hd hs hor hkl hg
  obtain ⟨text, wide, high, top, sought⟩ := p
  dsimp only at *
  subst hk
  subst hm
  have HROWS := Lib.hid hrows
  have HMOST := Lib.hid hmost
  clear hrows hmost
  generalize PG.rows ⟨text, wide, m, k, sought⟩ = rows at *
  go_enter Tryz.func9, Tryz.ntmps9
  go_wp2_with fail
  refine hS.out.mono ?_
  rintro e w1 ⟨hb, ⟨h0, _⟩ | ⟨_, b, rfl, hrw⟩⟩
  · exact absurd rfl h0
  have HB := Lib.hid (show Below w.heap.size w w1 from (two_below' w _ _).trans (hb.mono (two_below' w _ _).size))
  have K2 := Lib.hid (X2.out.keep hb)
  have K4 := Lib.hid (X4.out.keep hb)
  have HRW := Lib.hid hrw
  obtain ⟨hBb, v1, v2, hk', o1, o2⟩ := hrw
  obtain ⟨A1, c1', rfl⟩ := own_form o1
  have cc : ∀ j, w1.cell? ⟨b, j, none⟩ = #[Value.int .i64 wide, .slice A1 rows.length c1', v2, Value.string ⟨(rowsL text wide).2.2.toArray⟩][j]? := fun j => by simp [World.cell?, hk', HROWS.out]
  have lb : b < w1.heap.size := lt_of_block hk'
  obtain ⟨c2, _⟩ := K2.out.cell
  obtain ⟨c4, z4⟩ := K4.out.cell
  have l2 : w.heap.size < w1.heap.size := K2.out.lt
  have l4 : w.heap.size + 1 < w1.heap.size := K4.out.lt
  clear hk' o1 o2 hb hS X2 X4 hBb
  go_wp2_with fail
  have K8 := Lib.hid (show Bx (w1.alloc (.cells (pgC text wide m k sought) 26)) w1.heap.size (pgC text wide m k sought) from heap_alloc_new w1 _)
  have hb2 : Below w1.heap.size w1 (w1.alloc (.cells (pgC text wide m k sought) 26)) := (Below.refl _ w1).alloc (Nat.le_refl _) _
  have K22 := Lib.hid (K2.out.keep hb2)
  have K42 := Lib.hid (K4.out.keep hb2)
  have cc2 := fun j => (hb2.cell (p := ⟨b, j, none⟩) lb).trans (cc j)
  have HB2 := Lib.hid (HB.out.trans (hb2.mono HB.out.size))
  have HRW2 := Lib.hid (HRW.out.keepB hb2)
  have HL8 := Lib.hid (show w.heap.size + 1 < w1.heap.size from K4.out.lt)
  have HRWA := Lib.hid (fun n u => HRW.out.keepB (w' := ((w1.alloc (.cells (pgC text wide m k sought) 26)).drewN n).setCell ⟨w1.heap.size, 4, none⟩ u) ((below_drewN hb2 n).setCell (Nat.le_refl _) _))
  clear c2 c4 z4 cc l2 l4
  generalize w1.alloc (.cells (pgC text wide m k sought) 26) = wz at *
  generalize w1.heap.size = g8 at *
  obtain ⟨c2, _⟩ := K22.out.cell
  obtain ⟨c4, z4⟩ := K42.out.cell
  obtain ⟨c8, z8⟩ := K8.out.cell
  clear hb2 lb
  go_quiet (fail)
  have K23 := Lib.hid (K22.out.drewN nq)
  have K43 := Lib.hid (K42.out.drewN nq)
  have K83 := Lib.hid (K8.out.drewN nq)
  have HB3 := Lib.hid (below_drewN HB2.out nq)
  have HRW3 := Lib.hid (HRW2.out.drewN nq)
  have HRWS := Lib.hid (fun u => HRWA.out nq u)
  clear c2 c4 z4 c8 z8 cc2 HRWA K22 K42 K8 HB2 HRW2
  generalize wz.drewN nq = wq at *
  obtain ⟨c2, _⟩ := K23.out.cell
  obtain ⟨c4, z4⟩ := K43.out.cell
  obtain ⟨c8, z8⟩ := K83.out.cell
  have l8 := HL8.out
  have n8 : g8 ≠ w.heap.size := by omega
  have n9 : g8 ≠ w.heap.size + 1 := by omega
  clear l8
  go_wp2_with (go_at_call 26; refine (HPF.out _).mono ?_; rintro e w' ⟨rfl, rfl⟩)
  refine (HSO.out _ b _ (by exact HRW3.out) (by exact HX.out.keep HB3.out)).mono ?_
  rintro e w5 ⟨rfl, hb5⟩
  have K25 := Lib.hid (K23.out.keep hb5)
  have K45 := Lib.hid (K43.out.keep hb5)
  have K85 := Lib.hid (K83.out.keep hb5)
  have HB5 := Lib.hid ((HB3.out).trans (hb5.mono (HB3.out).size))
  clear hb5 c2 c4 z4 c8 z8
  obtain ⟨c2, _⟩ := K25.out.cell
  obtain ⟨c4, z4⟩ := K45.out.cell
  obtain ⟨c8, z8⟩ := K85.out.cell
  go_wp2_with fail
  refine scroll_end (five_bx ((K45.out.far (Ne.symm n9) 3 _).far (Ne.symm n9) 3 _) _ _ _ _ _) rfl rfl ⟨?_, five_below ((HB5.out.setCell (by have := HL8.out; exact (by omega : w.heap.size ≤ g8)) _).setCell (by have := HL8.out; exact (by omega : w.heap.size ≤ g8)) _) (by omega) _ _ _ _ _⟩
  exact ret_pg (b := min (max S 0) (PG.most ⟨text, wide, m, k, sought⟩)) (by rw [HMOST.out]; try omega)
set_option maxRecDepth 100000 in
set_option maxHeartbeats 3200000 in
theorem scroll_sx_no (p : PG) (key : ByteArray) (w : World) (hx : MX w) (hd : Deb w) (hs : p.text.size < 4294967281) (h0 : pagerE p = 0) (f106 : (key.toList == [106]) = false) (f107 : (key.toList == [107]) = false) (f32 : (key.toList == [32]) = false) (f98 : (key.toList == [98]) = false) (f100 : (key.toList == [100]) = false) (f117 : (key.toList == [117]) = false) (f103 : (key.toList == [103]) = false) (f71 : (key.toList == [71]) = false) (f110 : (key.toList == [110]) = false) (f78 : (key.toList == [78]) = false) (hsl : slashB key = true) (hlg : ¬ 201 < key.size) (hl0 : 1 ≤ key.size) (f47 : (key.toList == [47]) = false) (hfin : scrollL p key = seekTo p (key.extract 1 key.size) (1)) (hsg : soughtL p (key.extract 1 key.size) (1) < 0) :
    Calls Tryz.prog 9 #[p.v, .string key] w (ScrollT w (scrollL p key)) := by
  have hS := Lib.hid (shownBy_any p ((w.alloc (.cells (pgC p.text p.wide p.high p.top p.sought) 26)).alloc (.cells zeroP 26)) (hx.keep (two_below' w _ _)) (hd.keep (two_below' w _ _)) hs)
  have HX := Lib.hid hx
  have hg := pgood h0
  rw [h0] at hS
  obtain ⟨k, m, hk, hm, hkl, hm1, hm2, hor⟩ := hi_of hg
  have hlen : p.rows.length ≤ 4000000000000 := (rows_len' p.text p.wide).1
  have HPF := Lib.hid (fun W => (Tryz.strings_HasPrefix key ⟨#[47]⟩ W).mono fun e w' hh => show e = .returned (.bool true) ∧ w' = W from ⟨by rw [hh.1]; exact ret_bool hsl, hh.2⟩)
  clear hsl
  have hl1 : decide ((200 : Int) < (key.size : Int) - 1) = false := by rw [decide_eq_false_iff_not]; omega
  have hl2 : IntKind.i64.wrap ((key.size : Int) - 1) = (key.size : Int) - 1 := IntWalk.i64_in _ (by omega)
  obtain ⟨S, hSe⟩ : ∃ S, soughtL p (key.extract 1 key.size) (1) = S := ⟨_, rfl⟩
  have HSO := Lib.hid (fun W b B (h : RW W B b p.wide (rowsL p.text p.wide)) (hx' : MX W) => by
    have := sought_any p (key.extract 1 key.size) (1) (.inl rfl) b B W h (pgood h0) hx'
    rw [hSe] at this
    exact this)
  have hfin : scrollL p key = (p, 8) := by rw [hfin]; unfold seekTo; rw [hSe, if_pos (by rw [← hSe]; exact hsg)]
  have hsd : S < 0 := by rw [← hSe]; exact hsg
  have hsdb : decide (S < 0) = true := by first | exact decide_eq_true hsd | exact decide_eq_false hsd
  clear hSe hsg
  rw [hfin]
  clear hfin
  have HG := Lib.hid hg
  have hsub : IntKind.i64.wrap ((p.rows.length : Int) - (m : Int)) = (p.rows.length : Int) - (m : Int) := IntWalk.i64_in _ (by omega)
  have hdv : Int.tdiv (m : Int) 2 = (m : Int) / 2 := Int.tdiv_eq_ediv_of_nonneg (by omega)
  have hmost : p.most = max ((p.rows.length : Int) - (m : Int)) 0 := by unfold PG.most; rw [hm]
  obtain ⟨x2, x4⟩ := two_bx w (pgC p.text p.wide p.high p.top p.sought) zeroP
  have X2 := Lib.hid x2
  have X4 := Lib.hid x4
  have hrows : (rowsL p.text p.wide).1 = p.rows := rfl
  clear h0 x2 x4 hx hd hs hor hkl hg
  obtain ⟨text, wide, high, top, sought⟩ := p
  dsimp only at *
  subst hk
  subst hm
  have HROWS := Lib.hid hrows
  have HMOST := Lib.hid hmost
  clear hrows hmost
  generalize PG.rows ⟨text, wide, m, k, sought⟩ = rows at *
  go_enter Tryz.func9, Tryz.ntmps9
  go_wp2_with fail
  refine hS.out.mono ?_
  rintro e w1 ⟨hb, ⟨h0, _⟩ | ⟨_, b, rfl, hrw⟩⟩
  · exact absurd rfl h0
  have HB := Lib.hid (show Below w.heap.size w w1 from (two_below' w _ _).trans (hb.mono (two_below' w _ _).size))
  have K2 := Lib.hid (X2.out.keep hb)
  have K4 := Lib.hid (X4.out.keep hb)
  have HRW := Lib.hid hrw
  obtain ⟨hBb, v1, v2, hk', o1, o2⟩ := hrw
  obtain ⟨A1, c1', rfl⟩ := own_form o1
  have cc : ∀ j, w1.cell? ⟨b, j, none⟩ = #[Value.int .i64 wide, .slice A1 rows.length c1', v2, Value.string ⟨(rowsL text wide).2.2.toArray⟩][j]? := fun j => by simp [World.cell?, hk', HROWS.out]
  have lb : b < w1.heap.size := lt_of_block hk'
  obtain ⟨c2, _⟩ := K2.out.cell
  obtain ⟨c4, z4⟩ := K4.out.cell
  have l2 : w.heap.size < w1.heap.size := K2.out.lt
  have l4 : w.heap.size + 1 < w1.heap.size := K4.out.lt
  clear hk' o1 o2 hb hS X2 X4 hBb
  go_wp2_with fail
  have K8 := Lib.hid (show Bx (w1.alloc (.cells (pgC text wide m k sought) 26)) w1.heap.size (pgC text wide m k sought) from heap_alloc_new w1 _)
  have hb2 : Below w1.heap.size w1 (w1.alloc (.cells (pgC text wide m k sought) 26)) := (Below.refl _ w1).alloc (Nat.le_refl _) _
  have K22 := Lib.hid (K2.out.keep hb2)
  have K42 := Lib.hid (K4.out.keep hb2)
  have cc2 := fun j => (hb2.cell (p := ⟨b, j, none⟩) lb).trans (cc j)
  have HB2 := Lib.hid (HB.out.trans (hb2.mono HB.out.size))
  have HRW2 := Lib.hid (HRW.out.keepB hb2)
  have HL8 := Lib.hid (show w.heap.size + 1 < w1.heap.size from K4.out.lt)
  have HRWA := Lib.hid (fun n u => HRW.out.keepB (w' := ((w1.alloc (.cells (pgC text wide m k sought) 26)).drewN n).setCell ⟨w1.heap.size, 4, none⟩ u) ((below_drewN hb2 n).setCell (Nat.le_refl _) _))
  clear c2 c4 z4 cc l2 l4
  generalize w1.alloc (.cells (pgC text wide m k sought) 26) = wz at *
  generalize w1.heap.size = g8 at *
  obtain ⟨c2, _⟩ := K22.out.cell
  obtain ⟨c4, z4⟩ := K42.out.cell
  obtain ⟨c8, z8⟩ := K8.out.cell
  clear hb2 lb
  go_quiet (fail)
  have K23 := Lib.hid (K22.out.drewN nq)
  have K43 := Lib.hid (K42.out.drewN nq)
  have K83 := Lib.hid (K8.out.drewN nq)
  have HB3 := Lib.hid (below_drewN HB2.out nq)
  have HRW3 := Lib.hid (HRW2.out.drewN nq)
  have HRWS := Lib.hid (fun u => HRWA.out nq u)
  clear c2 c4 z4 c8 z8 cc2 HRWA K22 K42 K8 HB2 HRW2
  generalize wz.drewN nq = wq at *
  obtain ⟨c2, _⟩ := K23.out.cell
  obtain ⟨c4, z4⟩ := K43.out.cell
  obtain ⟨c8, z8⟩ := K83.out.cell
  have l8 := HL8.out
  have n8 : g8 ≠ w.heap.size := by omega
  have n9 : g8 ≠ w.heap.size + 1 := by omega
  clear l8
  go_wp2_with (go_at_call 26; refine (HPF.out _).mono ?_; rintro e w' ⟨rfl, rfl⟩)
  refine (HSO.out _ b _ (by exact HRWS.out _) (by exact HX.out.keep (HB3.out.setCell (by have := HL8.out; exact (by omega : w.heap.size ≤ g8)) _))).mono ?_
  rintro e w5 ⟨rfl, hb5⟩
  have K25 := Lib.hid ((K23.out.far (Ne.symm n8) 4 _).keep hb5)
  have K45 := Lib.hid ((K43.out.far (Ne.symm n9) 4 _).keep hb5)
  have K85 := Lib.hid ((K83.out.set_ 4 (.string (key.extract 1 key.size))).keep hb5)
  have HB5 := Lib.hid (((HB3.out.setCell (by have := HL8.out; exact (by omega : w.heap.size ≤ g8)) _)).trans (hb5.mono ((HB3.out.setCell (by have := HL8.out; exact (by omega : w.heap.size ≤ g8)) _)).size))
  clear hb5 c2 c4 z4 c8 z8
  obtain ⟨c2, _⟩ := K25.out.cell
  obtain ⟨c4, z4⟩ := K45.out.cell
  obtain ⟨c8, z8⟩ := K85.out.cell
  simp only [pgC, List.setIfInBounds_toArray, List.set_cons_zero, List.set_cons_succ] at c8
  go_wp2_with fail
  refine scroll_end (five_bx (K45.out.far (Ne.symm n9) 3 _) _ _ _ _ _) rfl rfl ⟨rfl, five_below (HB5.out.setCell (by have := HL8.out; exact (by omega : w.heap.size ≤ g8)) _) (by omega) _ _ _ _ _⟩
set_option maxRecDepth 100000 in
set_option maxHeartbeats 3200000 in
theorem scroll_sx_yes (p : PG) (key : ByteArray) (w : World) (hx : MX w) (hd : Deb w) (hs : p.text.size < 4294967281) (h0 : pagerE p = 0) (f106 : (key.toList == [106]) = false) (f107 : (key.toList == [107]) = false) (f32 : (key.toList == [32]) = false) (f98 : (key.toList == [98]) = false) (f100 : (key.toList == [100]) = false) (f117 : (key.toList == [117]) = false) (f103 : (key.toList == [103]) = false) (f71 : (key.toList == [71]) = false) (f110 : (key.toList == [110]) = false) (f78 : (key.toList == [78]) = false) (hsl : slashB key = true) (hlg : ¬ 201 < key.size) (hl0 : 1 ≤ key.size) (f47 : (key.toList == [47]) = false) (hfin : scrollL p key = seekTo p (key.extract 1 key.size) (1)) (hsg : ¬ soughtL p (key.extract 1 key.size) (1) < 0) :
    Calls Tryz.prog 9 #[p.v, .string key] w (ScrollT w (scrollL p key)) := by
  have hS := Lib.hid (shownBy_any p ((w.alloc (.cells (pgC p.text p.wide p.high p.top p.sought) 26)).alloc (.cells zeroP 26)) (hx.keep (two_below' w _ _)) (hd.keep (two_below' w _ _)) hs)
  have HX := Lib.hid hx
  have hg := pgood h0
  rw [h0] at hS
  obtain ⟨k, m, hk, hm, hkl, hm1, hm2, hor⟩ := hi_of hg
  have hlen : p.rows.length ≤ 4000000000000 := (rows_len' p.text p.wide).1
  have HPF := Lib.hid (fun W => (Tryz.strings_HasPrefix key ⟨#[47]⟩ W).mono fun e w' hh => show e = .returned (.bool true) ∧ w' = W from ⟨by rw [hh.1]; exact ret_bool hsl, hh.2⟩)
  clear hsl
  have hl1 : decide ((200 : Int) < (key.size : Int) - 1) = false := by rw [decide_eq_false_iff_not]; omega
  have hl2 : IntKind.i64.wrap ((key.size : Int) - 1) = (key.size : Int) - 1 := IntWalk.i64_in _ (by omega)
  obtain ⟨S, hSe⟩ : ∃ S, soughtL p (key.extract 1 key.size) (1) = S := ⟨_, rfl⟩
  have HSO := Lib.hid (fun W b B (h : RW W B b p.wide (rowsL p.text p.wide)) (hx' : MX W) => by
    have := sought_any p (key.extract 1 key.size) (1) (.inl rfl) b B W h (pgood h0) hx'
    rw [hSe] at this
    exact this)
  have hfin : scrollL p key = ({ p with sought := (key.extract 1 key.size), top := min (max S 0) p.most }, 0) := by rw [hfin]; unfold seekTo; rw [hSe, if_neg (by rw [← hSe]; exact hsg)]
  have hsd : ¬ S < 0 := by rw [← hSe]; exact hsg
  have hsdb : decide (S < 0) = false := by first | exact decide_eq_true hsd | exact decide_eq_false hsd
  clear hSe hsg
  rw [hfin]
  clear hfin
  have HG := Lib.hid hg
  have hsub : IntKind.i64.wrap ((p.rows.length : Int) - (m : Int)) = (p.rows.length : Int) - (m : Int) := IntWalk.i64_in _ (by omega)
  have hdv : Int.tdiv (m : Int) 2 = (m : Int) / 2 := Int.tdiv_eq_ediv_of_nonneg (by omega)
  have hmost : p.most = max ((p.rows.length : Int) - (m : Int)) 0 := by unfold PG.most; rw [hm]
  obtain ⟨x2, x4⟩ := two_bx w (pgC p.text p.wide p.high p.top p.sought) zeroP
  have X2 := Lib.hid x2
  have X4 := Lib.hid x4
  have hrows : (rowsL p.text p.wide).1 = p.rows := rfl
  clear h0 x2 x4 hx hd hs hor hkl hg
  obtain ⟨text, wide, high, top, sought⟩ := p
  dsimp only at *
  subst hk
  subst hm
  have HROWS := Lib.hid hrows
  have HMOST := Lib.hid hmost
  clear hrows hmost
  generalize PG.rows ⟨text, wide, m, k, sought⟩ = rows at *
  go_enter Tryz.func9, Tryz.ntmps9
  go_wp2_with fail
  refine hS.out.mono ?_
  rintro e w1 ⟨hb, ⟨h0, _⟩ | ⟨_, b, rfl, hrw⟩⟩
  · exact absurd rfl h0
  have HB := Lib.hid (show Below w.heap.size w w1 from (two_below' w _ _).trans (hb.mono (two_below' w _ _).size))
  have K2 := Lib.hid (X2.out.keep hb)
  have K4 := Lib.hid (X4.out.keep hb)
  have HRW := Lib.hid hrw
  obtain ⟨hBb, v1, v2, hk', o1, o2⟩ := hrw
  obtain ⟨A1, c1', rfl⟩ := own_form o1
  have cc : ∀ j, w1.cell? ⟨b, j, none⟩ = #[Value.int .i64 wide, .slice A1 rows.length c1', v2, Value.string ⟨(rowsL text wide).2.2.toArray⟩][j]? := fun j => by simp [World.cell?, hk', HROWS.out]
  have lb : b < w1.heap.size := lt_of_block hk'
  obtain ⟨c2, _⟩ := K2.out.cell
  obtain ⟨c4, z4⟩ := K4.out.cell
  have l2 : w.heap.size < w1.heap.size := K2.out.lt
  have l4 : w.heap.size + 1 < w1.heap.size := K4.out.lt
  clear hk' o1 o2 hb hS X2 X4 hBb
  go_wp2_with fail
  have K8 := Lib.hid (show Bx (w1.alloc (.cells (pgC text wide m k sought) 26)) w1.heap.size (pgC text wide m k sought) from heap_alloc_new w1 _)
  have hb2 : Below w1.heap.size w1 (w1.alloc (.cells (pgC text wide m k sought) 26)) := (Below.refl _ w1).alloc (Nat.le_refl _) _
  have K22 := Lib.hid (K2.out.keep hb2)
  have K42 := Lib.hid (K4.out.keep hb2)
  have cc2 := fun j => (hb2.cell (p := ⟨b, j, none⟩) lb).trans (cc j)
  have HB2 := Lib.hid (HB.out.trans (hb2.mono HB.out.size))
  have HRW2 := Lib.hid (HRW.out.keepB hb2)
  have HL8 := Lib.hid (show w.heap.size + 1 < w1.heap.size from K4.out.lt)
  have HRWA := Lib.hid (fun n u => HRW.out.keepB (w' := ((w1.alloc (.cells (pgC text wide m k sought) 26)).drewN n).setCell ⟨w1.heap.size, 4, none⟩ u) ((below_drewN hb2 n).setCell (Nat.le_refl _) _))
  clear c2 c4 z4 cc l2 l4
  generalize w1.alloc (.cells (pgC text wide m k sought) 26) = wz at *
  generalize w1.heap.size = g8 at *
  obtain ⟨c2, _⟩ := K22.out.cell
  obtain ⟨c4, z4⟩ := K42.out.cell
  obtain ⟨c8, z8⟩ := K8.out.cell
  clear hb2 lb
  go_quiet (fail)
  have K23 := Lib.hid (K22.out.drewN nq)
  have K43 := Lib.hid (K42.out.drewN nq)
  have K83 := Lib.hid (K8.out.drewN nq)
  have HB3 := Lib.hid (below_drewN HB2.out nq)
  have HRW3 := Lib.hid (HRW2.out.drewN nq)
  have HRWS := Lib.hid (fun u => HRWA.out nq u)
  clear c2 c4 z4 c8 z8 cc2 HRWA K22 K42 K8 HB2 HRW2
  generalize wz.drewN nq = wq at *
  obtain ⟨c2, _⟩ := K23.out.cell
  obtain ⟨c4, z4⟩ := K43.out.cell
  obtain ⟨c8, z8⟩ := K83.out.cell
  have l8 := HL8.out
  have n8 : g8 ≠ w.heap.size := by omega
  have n9 : g8 ≠ w.heap.size + 1 := by omega
  clear l8
  go_wp2_with (go_at_call 26; refine (HPF.out _).mono ?_; rintro e w' ⟨rfl, rfl⟩)
  refine (HSO.out _ b _ (by exact HRWS.out _) (by exact HX.out.keep (HB3.out.setCell (by have := HL8.out; exact (by omega : w.heap.size ≤ g8)) _))).mono ?_
  rintro e w5 ⟨rfl, hb5⟩
  have K25 := Lib.hid ((K23.out.far (Ne.symm n8) 4 _).keep hb5)
  have K45 := Lib.hid ((K43.out.far (Ne.symm n9) 4 _).keep hb5)
  have K85 := Lib.hid ((K83.out.set_ 4 (.string (key.extract 1 key.size))).keep hb5)
  have HB5 := Lib.hid (((HB3.out.setCell (by have := HL8.out; exact (by omega : w.heap.size ≤ g8)) _)).trans (hb5.mono ((HB3.out.setCell (by have := HL8.out; exact (by omega : w.heap.size ≤ g8)) _)).size))
  clear hb5 c2 c4 z4 c8 z8
  obtain ⟨c2, _⟩ := K25.out.cell
  obtain ⟨c4, z4⟩ := K45.out.cell
  obtain ⟨c8, z8⟩ := K85.out.cell
  simp only [pgC, List.setIfInBounds_toArray, List.set_cons_zero, List.set_cons_succ] at c8
  go_wp2_with fail
  refine scroll_end (five_bx ((K45.out.far (Ne.symm n9) 3 _).far (Ne.symm n9) 3 _) _ _ _ _ _) rfl rfl ⟨?_, five_below ((HB5.out.setCell (by have := HL8.out; exact (by omega : w.heap.size ≤ g8)) _).setCell (by have := HL8.out; exact (by omega : w.heap.size ≤ g8)) _) (by omega) _ _ _ _ _⟩
  exact ret_pg (b := min (max S 0) (PG.most ⟨text, wide, m, k, sought⟩)) (by rw [HMOST.out]; try omega)
theorem key_eq {key : ByteArray} {c : UInt8} (h : key = ⟨#[c]⟩) : (key.toList == [c]) = true := by
  subst h
  rw [beq_iff_eq, ByteArray.toList_eq]
theorem key_ne {key : ByteArray} {c : UInt8} (h : ¬ key = ⟨#[c]⟩) : (key.toList == [c]) = false := by
  rw [beq_eq_false_iff_ne, ByteArray.toList_eq]
  intro e
  exact h (ByteArray.ext (Array.ext' (by simpa using e)))
theorem slash_one {key : ByteArray} (h : slashB key = true) : 1 ≤ key.size := by
  rw [← size_toList]
  unfold slashB Lib.hasPrefix at h
  cases hk : key.data.toList with
  | nil => rw [hk] at h; cases h
  | cons a l => simp

theorem scroll_any (p : PG) (key : ByteArray) (w : World) (hx : MX w) (hd : Deb w) (hs : p.text.size < 4294967281) (hkl : key.size ≤ 9223372036854775807) :
    Calls Tryz.prog 9 #[p.v, .string key] w (ScrollT w (scrollL p key)) := by
  by_cases h0 : pagerE p = 0
  case neg => exact scroll_bad p key w hx hd hs h0
  by_cases n106 : key = ⟨#[106]⟩
  · exact scroll_j p key w hx hd hs h0  (key_eq n106) (by unfold scrollL; rw [if_neg (by simp [h0]), if_pos n106])
  by_cases n107 : key = ⟨#[107]⟩
  · exact scroll_k p key w hx hd hs h0 (key_ne n106) (key_eq n107) (by unfold scrollL; rw [if_neg (by simp [h0]), if_neg n106, if_pos n107])
  by_cases n32 : key = ⟨#[32]⟩
  · exact scroll_sp p key w hx hd hs h0 (key_ne n106) (key_ne n107) (key_eq n32) (by unfold scrollL; rw [if_neg (by simp [h0]), if_neg n106, if_neg n107, if_pos n32])
  by_cases n98 : key = ⟨#[98]⟩
  · exact scroll_b p key w hx hd hs h0 (key_ne n106) (key_ne n107) (key_ne n32) (key_eq n98) (by unfold scrollL; rw [if_neg (by simp [h0]), if_neg n106, if_neg n107, if_neg n32, if_pos n98])
  by_cases n100 : key = ⟨#[100]⟩
  · exact scroll_d p key w hx hd hs h0 (key_ne n106) (key_ne n107) (key_ne n32) (key_ne n98) (key_eq n100) (by unfold scrollL; rw [if_neg (by simp [h0]), if_neg n106, if_neg n107, if_neg n32, if_neg n98, if_pos n100])
  by_cases n117 : key = ⟨#[117]⟩
  · exact scroll_u p key w hx hd hs h0 (key_ne n106) (key_ne n107) (key_ne n32) (key_ne n98) (key_ne n100) (key_eq n117) (by unfold scrollL; rw [if_neg (by simp [h0]), if_neg n106, if_neg n107, if_neg n32, if_neg n98, if_neg n100, if_pos n117])
  by_cases n103 : key = ⟨#[103]⟩
  · exact scroll_g p key w hx hd hs h0 (key_ne n106) (key_ne n107) (key_ne n32) (key_ne n98) (key_ne n100) (key_ne n117) (key_eq n103) (by unfold scrollL; rw [if_neg (by simp [h0]), if_neg n106, if_neg n107, if_neg n32, if_neg n98, if_neg n100, if_neg n117, if_pos n103])
  by_cases n71 : key = ⟨#[71]⟩
  · exact scroll_G p key w hx hd hs h0 (key_ne n106) (key_ne n107) (key_ne n32) (key_ne n98) (key_ne n100) (key_ne n117) (key_ne n103) (key_eq n71) (by unfold scrollL; rw [if_neg (by simp [h0]), if_neg n106, if_neg n107, if_neg n32, if_neg n98, if_neg n100, if_neg n117, if_neg n103, if_pos n71])
  by_cases n110 : key = ⟨#[110]⟩
  · by_cases hsg : soughtL p p.sought (1) < 0
    · exact scroll_n_no p key w hx hd hs h0 (key_ne n106) (key_ne n107) (key_ne n32) (key_ne n98) (key_ne n100) (key_ne n117) (key_ne n103) (key_ne n71) (key_eq n110) (by unfold scrollL; rw [if_neg (by simp [h0]), if_neg n106, if_neg n107, if_neg n32, if_neg n98, if_neg n100, if_neg n117, if_neg n103, if_neg n71, if_pos n110]) hsg
    · exact scroll_n_yes p key w hx hd hs h0 (key_ne n106) (key_ne n107) (key_ne n32) (key_ne n98) (key_ne n100) (key_ne n117) (key_ne n103) (key_ne n71) (key_eq n110) (by unfold scrollL; rw [if_neg (by simp [h0]), if_neg n106, if_neg n107, if_neg n32, if_neg n98, if_neg n100, if_neg n117, if_neg n103, if_neg n71, if_pos n110]) hsg
  by_cases n78 : key = ⟨#[78]⟩
  · by_cases hsg : soughtL p p.sought (-1) < 0
    · exact scroll_N_no p key w hx hd hs h0 (key_ne n106) (key_ne n107) (key_ne n32) (key_ne n98) (key_ne n100) (key_ne n117) (key_ne n103) (key_ne n71) (key_ne n110) (key_eq n78) (by unfold scrollL; rw [if_neg (by simp [h0]), if_neg n106, if_neg n107, if_neg n32, if_neg n98, if_neg n100, if_neg n117, if_neg n103, if_neg n71, if_neg n110, if_pos n78]) hsg
    · exact scroll_N_yes p key w hx hd hs h0 (key_ne n106) (key_ne n107) (key_ne n32) (key_ne n98) (key_ne n100) (key_ne n117) (key_ne n103) (key_ne n71) (key_ne n110) (key_eq n78) (by unfold scrollL; rw [if_neg (by simp [h0]), if_neg n106, if_neg n107, if_neg n32, if_neg n98, if_neg n100, if_neg n117, if_neg n103, if_neg n71, if_neg n110, if_pos n78]) hsg
  cases hsl : slashB key
  · exact scroll_other p key w hx hd hs h0 (key_ne n106) (key_ne n107) (key_ne n32) (key_ne n98) (key_ne n100) (key_ne n117) (key_ne n103) (key_ne n71) (key_ne n110) (key_ne n78) hsl (by unfold scrollL; rw [if_neg (by simp [h0]), if_neg n106, if_neg n107, if_neg n32, if_neg n98, if_neg n100, if_neg n117, if_neg n103, if_neg n71, if_neg n110, if_neg n78, if_neg (by simp [hsl])])
  · by_cases hlg : 201 < key.size
    · exact scroll_large p key w hx hd hs h0 (key_ne n106) (key_ne n107) (key_ne n32) (key_ne n98) (key_ne n100) (key_ne n117) (key_ne n103) (key_ne n71) (key_ne n110) (key_ne n78) hsl hlg hkl (by unfold scrollL; rw [if_neg (by simp [h0]), if_neg n106, if_neg n107, if_neg n32, if_neg n98, if_neg n100, if_neg n117, if_neg n103, if_neg n71, if_neg n110, if_neg n78, if_pos hsl, if_pos hlg])
    · by_cases n47 : key = ⟨#[47]⟩
      · have hfin : scrollL p key = seekTo p p.sought (1) := by unfold scrollL; rw [if_neg (by simp [h0]), if_neg n106, if_neg n107, if_neg n32, if_neg n98, if_neg n100, if_neg n117, if_neg n103, if_neg n71, if_neg n110, if_neg n78, if_pos hsl, if_neg hlg, if_pos n47]
        by_cases hsg : soughtL p p.sought (1) < 0
        · exact scroll_so_no p key w hx hd hs h0 (key_ne n106) (key_ne n107) (key_ne n32) (key_ne n98) (key_ne n100) (key_ne n117) (key_ne n103) (key_ne n71) (key_ne n110) (key_ne n78) hsl hlg (key_eq n47) hfin hsg
        · exact scroll_so_yes p key w hx hd hs h0 (key_ne n106) (key_ne n107) (key_ne n32) (key_ne n98) (key_ne n100) (key_ne n117) (key_ne n103) (key_ne n71) (key_ne n110) (key_ne n78) hsl hlg (key_eq n47) hfin hsg
      · have hfin : scrollL p key = seekTo p (key.extract 1 key.size) (1) := by unfold scrollL; rw [if_neg (by simp [h0]), if_neg n106, if_neg n107, if_neg n32, if_neg n98, if_neg n100, if_neg n117, if_neg n103, if_neg n71, if_neg n110, if_neg n78, if_pos hsl, if_neg hlg, if_neg n47]
        by_cases hsg : soughtL p (key.extract 1 key.size) (1) < 0
        · exact scroll_sx_no p key w hx hd hs h0 (key_ne n106) (key_ne n107) (key_ne n32) (key_ne n98) (key_ne n100) (key_ne n117) (key_ne n103) (key_ne n71) (key_ne n110) (key_ne n78) hsl hlg (slash_one hsl) (key_ne n47) hfin hsg
        · exact scroll_sx_yes p key w hx hd hs h0 (key_ne n106) (key_ne n107) (key_ne n32) (key_ne n98) (key_ne n100) (key_ne n117) (key_ne n103) (key_ne n71) (key_ne n110) (key_ne n78) hsl hlg (slash_one hsl) (key_ne n47) hfin hsg

end Go.Proofs.YtokmiommhfbkeaaGreatDoor
