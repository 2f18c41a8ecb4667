/- The reference's Scroll: a pager behind a key, for every pager of a text below 4 GiB and every key. -/
import Derived.Test.YtokmiommhfbkeaaGreatDoorPagerE
namespace Go.Proofs.YtokmiommhfbkeaaGreatDoor
open Go.RowKit

theorem rscroll_end {W : World} {g : Nat} {v0 v1 v2 v3 v4 n : Value} {tmps : Array Value} {R : Ending → World → Prop} (hk : Bx W g #[v0, v1, v2, v3, v4]) (h4 : tmps.getD 4 undef = .pointer (some ⟨g, 0, none⟩)) (h5 : tmps.getD 5 undef = n)
    (hR : R (.returned (.tuple #[.agg #[v0, v1, v2, v3, v4], n])) W) : bodyPost Tryz.prog Tryz.f10 R .ret { tmps := tmps, defers := [] } W := by
  obtain ⟨c, z⟩ := hk.cell
  rw [Array.getD_eq_getD_getElem?] at h4 h5
  refine bodyPost_ret (v := .tuple #[.agg #[v0, v1, v2, v3, v4], n]) ?_ rfl hR
  simp [results, Tryz.results10, go_sem, h4, h5, c]

set_option maxRecDepth 100000 in
set_option maxHeartbeats 3200000 in
theorem rscroll_bad (p : PG) (key : ByteArray) (w : World) (hx : MX w) (hs : p.text.size < 4294967281) (h0 : ¬ pagerE p = 0) :
    Calls Tryz.prog 10 #[p.v, .string key] w (ScrollT w (scrollL p key)) := by
  have hS := pagerForm_any p ((w.alloc (.cells (pgC p.text p.wide p.high p.top p.sought) 26)).alloc (.cells zeroP 26)) (hx.keep (two_below' w _ _)) hs
  unfold FormT at hS
  have hfin : scrollL p key = (zeroPG, pagerE p) := by unfold scrollL; rw [if_pos h0]
  rw [hfin]
  have hne : (pagerE p == 0) = false := by rw [beq_eq_false_iff_ne]; exact h0
  have HS := Lib.hid hS
  clear hS h0 hfin hx hs
  generalize pagerE p = E at *
  obtain ⟨text, wide, high, top, sought⟩ := p
  dsimp only at *
  obtain ⟨x2, x4⟩ := two_bx w (pgC text wide high top sought) zeroP
  have X4 := Lib.hid x4
  clear x2 x4
  go_enter Tryz.func10, Tryz.ntmps10
  go_wp2_with fail
  refine HS.out.mono ?_
  rintro e w1 ⟨hb, v1, v2, rfl, _⟩
  have HB := Lib.hid (show Below w.heap.size w w1 from (two_below' w _ _).trans (hb.mono (two_below' w _ _).size))
  have K4 := Lib.hid (X4.out.keep hb)
  obtain ⟨c4, z4⟩ := K4.out.cell
  clear hb HS X4
  go_wp2
  refine rscroll_end (five_bx K4.out _ _ _ _ _) rfl rfl ⟨rfl, five_below HB.out (by omega) _ _ _ _ _⟩

set_option maxRecDepth 100000 in
set_option maxHeartbeats 3200000 in
theorem rscroll_j (p : PG) (key : ByteArray) (w : World) (hx : MX w) (hs : p.text.size < 4294967281) (h0 : pagerE p = 0) (f106 : (key.toList == [106]) = true) (hfin : scrollL p key = moveTo p (p.top + 1)) :
    Calls Tryz.prog 10 #[p.v, .string key] w (ScrollT w (scrollL p key)) := by
  have hS := pagerForm_any p ((w.alloc (.cells (pgC p.text p.wide p.high p.top p.sought) 26)).alloc (.cells zeroP 26)) (hx.keep (two_below' w _ _)) hs
  unfold FormT at hS
  have hg := pgood h0
  simp only [h0, forall_const] at hS
  have HS := Lib.hid hS
  obtain ⟨k, m, hk, hm, hkl, hm1, hm2, hor⟩ := hi_of hg
  have hlen : p.rows.length ≤ 4000000000000 := (rows_len' p.text p.wide).1
  have e1 : IntKind.i64.wrap ((k : Int) + 1) = (k : Int) + 1 := IntWalk.i64_in _ (by omega)
  rw [hfin]
  clear hfin
  have hsub : IntKind.i64.wrap ((p.rows.length : Int) - (m : Int)) = (p.rows.length : Int) - (m : Int) := IntWalk.i64_in _ (by omega)
  have hmost : p.most = max ((p.rows.length : Int) - (m : Int)) 0 := by unfold PG.most; rw [hm]
  obtain ⟨x2, x4⟩ := two_bx w (pgC p.text p.wide p.high p.top p.sought) zeroP
  have X2 := Lib.hid x2
  have X4 := Lib.hid x4
  clear h0 x2 x4 hx hs hor hkl hg hS
  obtain ⟨text, wide, high, top, sought⟩ := p
  dsimp only at *
  subst hk
  subst hm
  have HMOST := Lib.hid hmost
  clear hmost
  generalize PG.rows ⟨text, wide, m, k, sought⟩ = rows at *
  generalize PG.nums ⟨text, wide, m, k, sought⟩ = nums at *
  go_enter Tryz.func10, Tryz.ntmps10
  go_wp2_with fail
  refine HS.out.mono ?_
  rintro e w1 ⟨hb, v1, v2, rfl, hs1, hi2⟩
  have HB := Lib.hid (show Below w.heap.size w w1 from (two_below' w _ _).trans (hb.mono (two_below' w _ _).size))
  have K2 := Lib.hid (X2.out.keep hb)
  have K4 := Lib.hid (X4.out.keep hb)
  have HS1 := Lib.hid hs1
  have HI2 := Lib.hid hi2
  obtain ⟨A1, c1', rfl, _, _⟩ := hs1
  obtain ⟨c2, z2⟩ := K2.out.cell
  obtain ⟨c4, z4⟩ := K4.out.cell
  clear hb HS X2 X4 hi2
  go_wp2_with fail
  refine rscroll_end (five_bx (K4.out.far (show w.heap.size + 1 ≠ w.heap.size by omega) 3 _) _ _ _ _ _) rfl rfl ⟨?_, five_below (HB.out.setCell (p := ⟨w.heap.size, 3, none⟩) (Nat.le_refl _) _) (by omega) _ _ _ _ _⟩
  exact ret_pg (b := min (max ((k : Int) + 1) 0) (PG.most ⟨text, wide, m, k, sought⟩)) (by rw [HMOST.out]; omega)

set_option maxRecDepth 100000 in
set_option maxHeartbeats 3200000 in
theorem rscroll_k (p : PG) (key : ByteArray) (w : World) (hx : MX w) (hs : p.text.size < 4294967281) (h0 : pagerE p = 0) (f106 : (key.toList == [106]) = false) (f107 : (key.toList == [107]) = true) (hfin : scrollL p key = moveTo p (p.top - 1)) :
    Calls Tryz.prog 10 #[p.v, .string key] w (ScrollT w (scrollL p key)) := by
  have hS := pagerForm_any p ((w.alloc (.cells (pgC p.text p.wide p.high p.top p.sought) 26)).alloc (.cells zeroP 26)) (hx.keep (two_below' w _ _)) hs
  unfold FormT at hS
  have hg := pgood h0
  simp only [h0, forall_const] at hS
  have HS := Lib.hid hS
  obtain ⟨k, m, hk, hm, hkl, hm1, hm2, hor⟩ := hi_of hg
  have hlen : p.rows.length ≤ 4000000000000 := (rows_len' p.text p.wide).1
  have e1 : IntKind.i64.wrap ((k : Int) - 1) = (k : Int) - 1 := IntWalk.i64_in _ (by omega)
  rw [hfin]
  clear hfin
  have hsub : IntKind.i64.wrap ((p.rows.length : Int) - (m : Int)) = (p.rows.length : Int) - (m : Int) := IntWalk.i64_in _ (by omega)
  have hmost : p.most = max ((p.rows.length : Int) - (m : Int)) 0 := by unfold PG.most; rw [hm]
  obtain ⟨x2, x4⟩ := two_bx w (pgC p.text p.wide p.high p.top p.sought) zeroP
  have X2 := Lib.hid x2
  have X4 := Lib.hid x4
  clear h0 x2 x4 hx hs hor hkl hg hS
  obtain ⟨text, wide, high, top, sought⟩ := p
  dsimp only at *
  subst hk
  subst hm
  have HMOST := Lib.hid hmost
  clear hmost
  generalize PG.rows ⟨text, wide, m, k, sought⟩ = rows at *
  generalize PG.nums ⟨text, wide, m, k, sought⟩ = nums at *
  go_enter Tryz.func10, Tryz.ntmps10
  go_wp2_with fail
  refine HS.out.mono ?_
  rintro e w1 ⟨hb, v1, v2, rfl, hs1, hi2⟩
  have HB := Lib.hid (show Below w.heap.size w w1 from (two_below' w _ _).trans (hb.mono (two_below' w _ _).size))
  have K2 := Lib.hid (X2.out.keep hb)
  have K4 := Lib.hid (X4.out.keep hb)
  have HS1 := Lib.hid hs1
  have HI2 := Lib.hid hi2
  obtain ⟨A1, c1', rfl, _, _⟩ := hs1
  obtain ⟨c2, z2⟩ := K2.out.cell
  obtain ⟨c4, z4⟩ := K4.out.cell
  clear hb HS X2 X4 hi2
  go_wp2_with fail
  refine rscroll_end (five_bx (K4.out.far (show w.heap.size + 1 ≠ w.heap.size by omega) 3 _) _ _ _ _ _) rfl rfl ⟨?_, five_below (HB.out.setCell (p := ⟨w.heap.size, 3, none⟩) (Nat.le_refl _) _) (by omega) _ _ _ _ _⟩
  exact ret_pg (b := min (max ((k : Int) - 1) 0) (PG.most ⟨text, wide, m, k, sought⟩)) (by rw [HMOST.out]; omega)

set_option maxRecDepth 100000 in
set_option maxHeartbeats 3200000 in
theorem rscroll_sp (p : PG) (key : ByteArray) (w : World) (hx : MX w) (hs : p.text.size < 4294967281) (h0 : pagerE p = 0) (f106 : (key.toList == [106]) = false) (f107 : (key.toList == [107]) = false) (f32 : (key.toList == [32]) = true) (hfin : scrollL p key = moveTo p (p.top + p.high)) :
    Calls Tryz.prog 10 #[p.v, .string key] w (ScrollT w (scrollL p key)) := by
  have hS := pagerForm_any p ((w.alloc (.cells (pgC p.text p.wide p.high p.top p.sought) 26)).alloc (.cells zeroP 26)) (hx.keep (two_below' w _ _)) hs
  unfold FormT at hS
  have hg := pgood h0
  simp only [h0, forall_const] at hS
  have HS := Lib.hid hS
  obtain ⟨k, m, hk, hm, hkl, hm1, hm2, hor⟩ := hi_of hg
  have hlen : p.rows.length ≤ 4000000000000 := (rows_len' p.text p.wide).1
  have e1 : IntKind.i64.wrap ((k : Int) + m) = (k : Int) + m := IntWalk.i64_in _ (by omega)
  rw [hfin]
  clear hfin
  have hsub : IntKind.i64.wrap ((p.rows.length : Int) - (m : Int)) = (p.rows.length : Int) - (m : Int) := IntWalk.i64_in _ (by omega)
  have hmost : p.most = max ((p.rows.length : Int) - (m : Int)) 0 := by unfold PG.most; rw [hm]
  obtain ⟨x2, x4⟩ := two_bx w (pgC p.text p.wide p.high p.top p.sought) zeroP
  have X2 := Lib.hid x2
  have X4 := Lib.hid x4
  clear h0 x2 x4 hx hs hor hkl hg hS
  obtain ⟨text, wide, high, top, sought⟩ := p
  dsimp only at *
  subst hk
  subst hm
  have HMOST := Lib.hid hmost
  clear hmost
  generalize PG.rows ⟨text, wide, m, k, sought⟩ = rows at *
  generalize PG.nums ⟨text, wide, m, k, sought⟩ = nums at *
  go_enter Tryz.func10, Tryz.ntmps10
  go_wp2_with fail
  refine HS.out.mono ?_
  rintro e w1 ⟨hb, v1, v2, rfl, hs1, hi2⟩
  have HB := Lib.hid (show Below w.heap.size w w1 from (two_below' w _ _).trans (hb.mono (two_below' w _ _).size))
  have K2 := Lib.hid (X2.out.keep hb)
  have K4 := Lib.hid (X4.out.keep hb)
  have HS1 := Lib.hid hs1
  have HI2 := Lib.hid hi2
  obtain ⟨A1, c1', rfl, _, _⟩ := hs1
  obtain ⟨c2, z2⟩ := K2.out.cell
  obtain ⟨c4, z4⟩ := K4.out.cell
  clear hb HS X2 X4 hi2
  go_wp2_with fail
  refine rscroll_end (five_bx (K4.out.far (show w.heap.size + 1 ≠ w.heap.size by omega) 3 _) _ _ _ _ _) rfl rfl ⟨?_, five_below (HB.out.setCell (p := ⟨w.heap.size, 3, none⟩) (Nat.le_refl _) _) (by omega) _ _ _ _ _⟩
  exact ret_pg (b := min (max ((k : Int) + m) 0) (PG.most ⟨text, wide, m, k, sought⟩)) (by rw [HMOST.out]; omega)

set_option maxRecDepth 100000 in
set_option maxHeartbeats 3200000 in
theorem rscroll_b (p : PG) (key : ByteArray) (w : World) (hx : MX w) (hs : p.text.size < 4294967281) (h0 : pagerE p = 0) (f106 : (key.toList == [106]) = false) (f107 : (key.toList == [107]) = false) (f32 : (key.toList == [32]) = false) (f98 : (key.toList == [98]) = true) (hfin : scrollL p key = moveTo p (p.top - p.high)) :
    Calls Tryz.prog 10 #[p.v, .string key] w (ScrollT w (scrollL p key)) := by
  have hS := pagerForm_any p ((w.alloc (.cells (pgC p.text p.wide p.high p.top p.sought) 26)).alloc (.cells zeroP 26)) (hx.keep (two_below' w _ _)) hs
  unfold FormT at hS
  have hg := pgood h0
  simp only [h0, forall_const] at hS
  have HS := Lib.hid hS
  obtain ⟨k, m, hk, hm, hkl, hm1, hm2, hor⟩ := hi_of hg
  have hlen : p.rows.length ≤ 4000000000000 := (rows_len' p.text p.wide).1
  have e1 : IntKind.i64.wrap ((k : Int) - m) = (k : Int) - m := IntWalk.i64_in _ (by omega)
  rw [hfin]
  clear hfin
  have hsub : IntKind.i64.wrap ((p.rows.length : Int) - (m : Int)) = (p.rows.length : Int) - (m : Int) := IntWalk.i64_in _ (by omega)
  have hmost : p.most = max ((p.rows.length : Int) - (m : Int)) 0 := by unfold PG.most; rw [hm]
  obtain ⟨x2, x4⟩ := two_bx w (pgC p.text p.wide p.high p.top p.sought) zeroP
  have X2 := Lib.hid x2
  have X4 := Lib.hid x4
  clear h0 x2 x4 hx hs hor hkl hg hS
  obtain ⟨text, wide, high, top, sought⟩ := p
  dsimp only at *
  subst hk
  subst hm
  have HMOST := Lib.hid hmost
  clear hmost
  generalize PG.rows ⟨text, wide, m, k, sought⟩ = rows at *
  generalize PG.nums ⟨text, wide, m, k, sought⟩ = nums at *
  go_enter Tryz.func10, Tryz.ntmps10
  go_wp2_with fail
  refine HS.out.mono ?_
  rintro e w1 ⟨hb, v1, v2, rfl, hs1, hi2⟩
  have HB := Lib.hid (show Below w.heap.size w w1 from (two_below' w _ _).trans (hb.mono (two_below' w _ _).size))
  have K2 := Lib.hid (X2.out.keep hb)
  have K4 := Lib.hid (X4.out.keep hb)
  have HS1 := Lib.hid hs1
  have HI2 := Lib.hid hi2
  obtain ⟨A1, c1', rfl, _, _⟩ := hs1
  obtain ⟨c2, z2⟩ := K2.out.cell
  obtain ⟨c4, z4⟩ := K4.out.cell
  clear hb HS X2 X4 hi2
  go_wp2_with fail
  refine rscroll_end (five_bx (K4.out.far (show w.heap.size + 1 ≠ w.heap.size by omega) 3 _) _ _ _ _ _) rfl rfl ⟨?_, five_below (HB.out.setCell (p := ⟨w.heap.size, 3, none⟩) (Nat.le_refl _) _) (by omega) _ _ _ _ _⟩
  exact ret_pg (b := min (max ((k : Int) - m) 0) (PG.most ⟨text, wide, m, k, sought⟩)) (by rw [HMOST.out]; omega)

set_option maxRecDepth 100000 in
set_option maxHeartbeats 3200000 in
theorem rscroll_d (p : PG) (key : ByteArray) (w : World) (hx : MX w) (hs : p.text.size < 4294967281) (h0 : pagerE p = 0) (f106 : (key.toList == [106]) = false) (f107 : (key.toList == [107]) = false) (f32 : (key.toList == [32]) = false) (f98 : (key.toList == [98]) = false) (f100 : (key.toList == [100]) = true) (hfin : scrollL p key = moveTo p (p.top + max (p.high / 2) 1)) :
    Calls Tryz.prog 10 #[p.v, .string key] w (ScrollT w (scrollL p key)) := by
  have hS := pagerForm_any p ((w.alloc (.cells (pgC p.text p.wide p.high p.top p.sought) 26)).alloc (.cells zeroP 26)) (hx.keep (two_below' w _ _)) hs
  unfold FormT at hS
  have hg := pgood h0
  simp only [h0, forall_const] at hS
  have HS := Lib.hid hS
  obtain ⟨k, m, hk, hm, hkl, hm1, hm2, hor⟩ := hi_of hg
  have hlen : p.rows.length ≤ 4000000000000 := (rows_len' p.text p.wide).1
  have e1 : IntKind.i64.wrap ((k : Int) + max ((m : Int) / 2) 1) = (k : Int) + max ((m : Int) / 2) 1 := IntWalk.i64_in _ (by omega)
  rw [hfin]
  clear hfin
  have hsub : IntKind.i64.wrap ((p.rows.length : Int) - (m : Int)) = (p.rows.length : Int) - (m : Int) := IntWalk.i64_in _ (by omega)
  have hdv : Int.tdiv (m : Int) 2 = (m : Int) / 2 := Int.tdiv_eq_ediv_of_nonneg (by omega)
  have hmost : p.most = max ((p.rows.length : Int) - (m : Int)) 0 := by unfold PG.most; rw [hm]
  obtain ⟨x2, x4⟩ := two_bx w (pgC p.text p.wide p.high p.top p.sought) zeroP
  have X2 := Lib.hid x2
  have X4 := Lib.hid x4
  clear h0 x2 x4 hx hs hor hkl hg hS
  obtain ⟨text, wide, high, top, sought⟩ := p
  dsimp only at *
  subst hk
  subst hm
  have HMOST := Lib.hid hmost
  clear hmost
  generalize PG.rows ⟨text, wide, m, k, sought⟩ = rows at *
  generalize PG.nums ⟨text, wide, m, k, sought⟩ = nums at *
  go_enter Tryz.func10, Tryz.ntmps10
  go_wp2_with fail
  refine HS.out.mono ?_
  rintro e w1 ⟨hb, v1, v2, rfl, hs1, hi2⟩
  have HB := Lib.hid (show Below w.heap.size w w1 from (two_below' w _ _).trans (hb.mono (two_below' w _ _).size))
  have K2 := Lib.hid (X2.out.keep hb)
  have K4 := Lib.hid (X4.out.keep hb)
  have HS1 := Lib.hid hs1
  have HI2 := Lib.hid hi2
  obtain ⟨A1, c1', rfl, _, _⟩ := hs1
  obtain ⟨c2, z2⟩ := K2.out.cell
  obtain ⟨c4, z4⟩ := K4.out.cell
  clear hb HS X2 X4 hi2
  go_wp2_with fail
  refine rscroll_end (five_bx (K4.out.far (show w.heap.size + 1 ≠ w.heap.size by omega) 3 _) _ _ _ _ _) rfl rfl ⟨?_, five_below (HB.out.setCell (p := ⟨w.heap.size, 3, none⟩) (Nat.le_refl _) _) (by omega) _ _ _ _ _⟩
  exact ret_pg (b := min (max ((k : Int) + max ((m : Int) / 2) 1) 0) (PG.most ⟨text, wide, m, k, sought⟩)) (by rw [HMOST.out]; omega)

set_option maxRecDepth 100000 in
set_option maxHeartbeats 3200000 in
theorem rscroll_u (p : PG) (key : ByteArray) (w : World) (hx : MX w) (hs : p.text.size < 4294967281) (h0 : pagerE p = 0) (f106 : (key.toList == [106]) = false) (f107 : (key.toList == [107]) = false) (f32 : (key.toList == [32]) = false) (f98 : (key.toList == [98]) = false) (f100 : (key.toList == [100]) = false) (f117 : (key.toList == [117]) = true) (hfin : scrollL p key = moveTo p (p.top - max (p.high / 2) 1)) :
    Calls Tryz.prog 10 #[p.v, .string key] w (ScrollT w (scrollL p key)) := by
  have hS := pagerForm_any p ((w.alloc (.cells (pgC p.text p.wide p.high p.top p.sought) 26)).alloc (.cells zeroP 26)) (hx.keep (two_below' w _ _)) hs
  unfold FormT at hS
  have hg := pgood h0
  simp only [h0, forall_const] at hS
  have HS := Lib.hid hS
  obtain ⟨k, m, hk, hm, hkl, hm1, hm2, hor⟩ := hi_of hg
  have hlen : p.rows.length ≤ 4000000000000 := (rows_len' p.text p.wide).1
  have e1 : IntKind.i64.wrap ((k : Int) - max ((m : Int) / 2) 1) = (k : Int) - max ((m : Int) / 2) 1 := IntWalk.i64_in _ (by omega)
  rw [hfin]
  clear hfin
  have hsub : IntKind.i64.wrap ((p.rows.length : Int) - (m : Int)) = (p.rows.length : Int) - (m : Int) := IntWalk.i64_in _ (by omega)
  have hdv : Int.tdiv (m : Int) 2 = (m : Int) / 2 := Int.tdiv_eq_ediv_of_nonneg (by omega)
  have hmost : p.most = max ((p.rows.length : Int) - (m : Int)) 0 := by unfold PG.most; rw [hm]
  obtain ⟨x2, x4⟩ := two_bx w (pgC p.text p.wide p.high p.top p.sought) zeroP
  have X2 := Lib.hid x2
  have X4 := Lib.hid x4
  clear h0 x2 x4 hx hs hor hkl hg hS
  obtain ⟨text, wide, high, top, sought⟩ := p
  dsimp only at *
  subst hk
  subst hm
  have HMOST := Lib.hid hmost
  clear hmost
  generalize PG.rows ⟨text, wide, m, k, sought⟩ = rows at *
  generalize PG.nums ⟨text, wide, m, k, sought⟩ = nums at *
  go_enter Tryz.func10, Tryz.ntmps10
  go_wp2_with fail
  refine HS.out.mono ?_
  rintro e w1 ⟨hb, v1, v2, rfl, hs1, hi2⟩
  have HB := Lib.hid (show Below w.heap.size w w1 from (two_below' w _ _).trans (hb.mono (two_below' w _ _).size))
  have K2 := Lib.hid (X2.out.keep hb)
  have K4 := Lib.hid (X4.out.keep hb)
  have HS1 := Lib.hid hs1
  have HI2 := Lib.hid hi2
  obtain ⟨A1, c1', rfl, _, _⟩ := hs1
  obtain ⟨c2, z2⟩ := K2.out.cell
  obtain ⟨c4, z4⟩ := K4.out.cell
  clear hb HS X2 X4 hi2
  go_wp2_with fail
  refine rscroll_end (five_bx (K4.out.far (show w.heap.size + 1 ≠ w.heap.size by omega) 3 _) _ _ _ _ _) rfl rfl ⟨?_, five_below (HB.out.setCell (p := ⟨w.heap.size, 3, none⟩) (Nat.le_refl _) _) (by omega) _ _ _ _ _⟩
  exact ret_pg (b := min (max ((k : Int) - max ((m : Int) / 2) 1) 0) (PG.most ⟨text, wide, m, k, sought⟩)) (by rw [HMOST.out]; omega)

set_option maxRecDepth 100000 in
set_option maxHeartbeats 3200000 in
theorem rscroll_g (p : PG) (key : ByteArray) (w : World) (hx : MX w) (hs : p.text.size < 4294967281) (h0 : pagerE p = 0) (f106 : (key.toList == [106]) = false) (f107 : (key.toList == [107]) = false) (f32 : (key.toList == [32]) = false) (f98 : (key.toList == [98]) = false) (f100 : (key.toList == [100]) = false) (f117 : (key.toList == [117]) = false) (f103 : (key.toList == [103]) = true) (hfin : scrollL p key = moveTo p (0)) :
    Calls Tryz.prog 10 #[p.v, .string key] w (ScrollT w (scrollL p key)) := by
  have hS := pagerForm_any p ((w.alloc (.cells (pgC p.text p.wide p.high p.top p.sought) 26)).alloc (.cells zeroP 26)) (hx.keep (two_below' w _ _)) hs
  unfold FormT at hS
  have hg := pgood h0
  simp only [h0, forall_const] at hS
  have HS := Lib.hid hS
  obtain ⟨k, m, hk, hm, hkl, hm1, hm2, hor⟩ := hi_of hg
  have hlen : p.rows.length ≤ 4000000000000 := (rows_len' p.text p.wide).1
  rw [hfin]
  clear hfin
  have hsub : IntKind.i64.wrap ((p.rows.length : Int) - (m : Int)) = (p.rows.length : Int) - (m : Int) := IntWalk.i64_in _ (by omega)
  have hmost : p.most = max ((p.rows.length : Int) - (m : Int)) 0 := by unfold PG.most; rw [hm]
  obtain ⟨x2, x4⟩ := two_bx w (pgC p.text p.wide p.high p.top p.sought) zeroP
  have X2 := Lib.hid x2
  have X4 := Lib.hid x4
  clear h0 x2 x4 hx hs hor hkl hg hS
  obtain ⟨text, wide, high, top, sought⟩ := p
  dsimp only at *
  subst hk
  subst hm
  have HMOST := Lib.hid hmost
  clear hmost
  generalize PG.rows ⟨text, wide, m, k, sought⟩ = rows at *
  generalize PG.nums ⟨text, wide, m, k, sought⟩ = nums at *
  go_enter Tryz.func10, Tryz.ntmps10
  go_wp2_with fail
  refine HS.out.mono ?_
  rintro e w1 ⟨hb, v1, v2, rfl, hs1, hi2⟩
  have HB := Lib.hid (show Below w.heap.size w w1 from (two_below' w _ _).trans (hb.mono (two_below' w _ _).size))
  have K2 := Lib.hid (X2.out.keep hb)
  have K4 := Lib.hid (X4.out.keep hb)
  have HS1 := Lib.hid hs1
  have HI2 := Lib.hid hi2
  obtain ⟨A1, c1', rfl, _, _⟩ := hs1
  obtain ⟨c2, z2⟩ := K2.out.cell
  obtain ⟨c4, z4⟩ := K4.out.cell
  clear hb HS X2 X4 hi2
  go_wp2_with fail
  refine rscroll_end (five_bx (K4.out.far (show w.heap.size + 1 ≠ w.heap.size by omega) 3 _) _ _ _ _ _) rfl rfl ⟨?_, five_below (HB.out.setCell (p := ⟨w.heap.size, 3, none⟩) (Nat.le_refl _) _) (by omega) _ _ _ _ _⟩
  exact ret_pg (b := min (max (0) 0) (PG.most ⟨text, wide, m, k, sought⟩)) (by rw [HMOST.out]; omega)

set_option maxRecDepth 100000 in
set_option maxHeartbeats 3200000 in
theorem rscroll_G (p : PG) (key : ByteArray) (w : World) (hx : MX w) (hs : p.text.size < 4294967281) (h0 : pagerE p = 0) (f106 : (key.toList == [106]) = false) (f107 : (key.toList == [107]) = false) (f32 : (key.toList == [32]) = false) (f98 : (key.toList == [98]) = false) (f100 : (key.toList == [100]) = false) (f117 : (key.toList == [117]) = false) (f103 : (key.toList == [103]) = false) (f71 : (key.toList == [71]) = true) (hfin : scrollL p key = moveTo p (p.most)) :
    Calls Tryz.prog 10 #[p.v, .string key] w (ScrollT w (scrollL p key)) := by
  have hS := pagerForm_any p ((w.alloc (.cells (pgC p.text p.wide p.high p.top p.sought) 26)).alloc (.cells zeroP 26)) (hx.keep (two_below' w _ _)) hs
  unfold FormT at hS
  have hg := pgood h0
  simp only [h0, forall_const] at hS
  have HS := Lib.hid hS
  obtain ⟨k, m, hk, hm, hkl, hm1, hm2, hor⟩ := hi_of hg
  have hlen : p.rows.length ≤ 4000000000000 := (rows_len' p.text p.wide).1
  rw [hfin]
  clear hfin
  have hsub : IntKind.i64.wrap ((p.rows.length : Int) - (m : Int)) = (p.rows.length : Int) - (m : Int) := IntWalk.i64_in _ (by omega)
  have hmost : p.most = max ((p.rows.length : Int) - (m : Int)) 0 := by unfold PG.most; rw [hm]
  obtain ⟨x2, x4⟩ := two_bx w (pgC p.text p.wide p.high p.top p.sought) zeroP
  have X2 := Lib.hid x2
  have X4 := Lib.hid x4
  clear h0 x2 x4 hx hs hor hkl hg hS
  obtain ⟨text, wide, high, top, sought⟩ := p
  dsimp only at *
  subst hk
  subst hm
  have HMOST := Lib.hid hmost
  clear hmost
  generalize PG.rows ⟨text, wide, m, k, sought⟩ = rows at *
  generalize PG.nums ⟨text, wide, m, k, sought⟩ = nums at *
  go_enter Tryz.func10, Tryz.ntmps10
  go_wp2_with fail
  refine HS.out.mono ?_
  rintro e w1 ⟨hb, v1, v2, rfl, hs1, hi2⟩
  have HB := Lib.hid (show Below w.heap.size w w1 from (two_below' w _ _).trans (hb.mono (two_below' w _ _).size))
  have K2 := Lib.hid (X2.out.keep hb)
  have K4 := Lib.hid (X4.out.keep hb)
  have HS1 := Lib.hid hs1
  have HI2 := Lib.hid hi2
  obtain ⟨A1, c1', rfl, _, _⟩ := hs1
  obtain ⟨c2, z2⟩ := K2.out.cell
  obtain ⟨c4, z4⟩ := K4.out.cell
  clear hb HS X2 X4 hi2
  go_wp2_with fail
  refine rscroll_end (five_bx (K4.out.far (show w.heap.size + 1 ≠ w.heap.size by omega) 3 _) _ _ _ _ _) rfl rfl ⟨?_, five_below (HB.out.setCell (p := ⟨w.heap.size, 3, none⟩) (Nat.le_refl _) _) (by omega) _ _ _ _ _⟩
  exact ret_pg (b := min (max ((PG.most ⟨text, wide, m, k, sought⟩)) 0) (PG.most ⟨text, wide, m, k, sought⟩)) (by rw [HMOST.out]; omega)

set_option maxRecDepth 100000 in
set_option maxHeartbeats 3200000 in
theorem rscroll_seek (p : PG) (key : ByteArray) (w : World) (hx : MX w) (hs : p.text.size < 4294967281) (h0 : pagerE p = 0) (f106 : (key.toList == [106]) = false) (f107 : (key.toList == [107]) = false) (f32 : (key.toList == [32]) = false) (f98 : (key.toList == [98]) = false) (f100 : (key.toList == [100]) = false) (f117 : (key.toList == [117]) = false) (f103 : (key.toList == [103]) = false) (f71 : (key.toList == [71]) = false) (hkl : key.size ≤ 9223372036854775807) (hfin : scrollL p key = seekL p key) :
    Calls Tryz.prog 10 #[p.v, .string key] w (ScrollT w (scrollL p key)) := by
  have hS := pagerForm_any p ((w.alloc (.cells (pgC p.text p.wide p.high p.top p.sought) 26)).alloc (.cells zeroP 26)) (hx.keep (two_below' w _ _)) hs
  unfold FormT at hS
  have hg := pgood h0
  simp only [h0, forall_const] at hS
  have HS := Lib.hid hS
  obtain ⟨k, m, hk, hm, hkl, hm1, hm2, hor⟩ := hi_of hg
  have hlen : p.rows.length ≤ 4000000000000 := (rows_len' p.text p.wide).1
  rw [hfin]
  clear hfin
  obtain ⟨x2, x4⟩ := two_bx w (pgC p.text p.wide p.high p.top p.sought) zeroP
  have X2 := Lib.hid x2
  have X4 := Lib.hid x4
  have HG := Lib.hid hg
  have HX := Lib.hid hx
  clear h0 x2 x4 hx hs hor hkl hg hS
  obtain ⟨text, wide, high, top, sought⟩ := p
  dsimp only at *
  subst hk
  subst hm
  go_enter Tryz.func10, Tryz.ntmps10
  go_wp2_with fail
  refine HS.out.mono ?_
  rintro e w1 ⟨hb, v1, v2, rfl, hs1, hi2⟩
  have HB := Lib.hid (show Below w.heap.size w w1 from (two_below' w _ _).trans (hb.mono (two_below' w _ _).size))
  have K2 := Lib.hid (X2.out.keep hb)
  have K4 := Lib.hid (X4.out.keep hb)
  have HS1 := Lib.hid hs1
  have HI2 := Lib.hid hi2
  obtain ⟨A1, c1', rfl, _, _⟩ := hs1
  obtain ⟨c2, z2⟩ := K2.out.cell
  obtain ⟨c4, z4⟩ := K4.out.cell
  clear hb HS X2 X4 hi2
  go_wp2_with fail
  refine (seek_any ⟨text, wide, m, k, sought⟩ key _ _ _ (by exact HX.out.keep HB.out) HG.out (by exact HS1.out) (by exact HI2.out) hkl).mono ?_
  rintro e w5 ⟨rfl, hb5⟩
  have K45 := Lib.hid (K4.out.keep hb5)
  have HB5 := Lib.hid (HB.out.trans (hb5.mono HB.out.size))
  clear hb5 c2 z2 c4 z4
  generalize seekL ⟨text, wide, m, k, sought⟩ key = V at *
  obtain ⟨⟨t', w', h', o', s'⟩, n'⟩ := V
  obtain ⟨c4, z4⟩ := K45.out.cell
  go_wp2_with fail
  refine rscroll_end (five_bx K45.out _ _ _ _ _) rfl rfl ⟨rfl, five_below HB5.out (by omega) _ _ _ _ _⟩

theorem rscroll_any (p : PG) (key : ByteArray) (w : World) (hx : MX w) (hs : p.text.size < 4294967281) (hkl : key.size ≤ 9223372036854775807) :
    Calls Tryz.prog 10 #[p.v, .string key] w (ScrollT w (scrollL p key)) := by
  by_cases h0 : pagerE p = 0
  case neg => exact rscroll_bad p key w hx hs h0
  by_cases n106 : key = ⟨#[106]⟩
  · exact rscroll_j p key w hx hs h0  (key_eq n106) (by unfold scrollL; rw [if_neg (by simp [h0]), if_pos n106])
  by_cases n107 : key = ⟨#[107]⟩
  · exact rscroll_k p key w hx hs h0 (key_ne n106) (key_eq n107) (by unfold scrollL; rw [if_neg (by simp [h0]), if_neg n106, if_pos n107])
  by_cases n32 : key = ⟨#[32]⟩
  · exact rscroll_sp p key w hx hs h0 (key_ne n106) (key_ne n107) (key_eq n32) (by unfold scrollL; rw [if_neg (by simp [h0]), if_neg n106, if_neg n107, if_pos n32])
  by_cases n98 : key = ⟨#[98]⟩
  · exact rscroll_b p key w hx hs h0 (key_ne n106) (key_ne n107) (key_ne n32) (key_eq n98) (by unfold scrollL; rw [if_neg (by simp [h0]), if_neg n106, if_neg n107, if_neg n32, if_pos n98])
  by_cases n100 : key = ⟨#[100]⟩
  · exact rscroll_d p key w hx hs h0 (key_ne n106) (key_ne n107) (key_ne n32) (key_ne n98) (key_eq n100) (by unfold scrollL; rw [if_neg (by simp [h0]), if_neg n106, if_neg n107, if_neg n32, if_neg n98, if_pos n100])
  by_cases n117 : key = ⟨#[117]⟩
  · exact rscroll_u p key w hx hs h0 (key_ne n106) (key_ne n107) (key_ne n32) (key_ne n98) (key_ne n100) (key_eq n117) (by unfold scrollL; rw [if_neg (by simp [h0]), if_neg n106, if_neg n107, if_neg n32, if_neg n98, if_neg n100, if_pos n117])
  by_cases n103 : key = ⟨#[103]⟩
  · exact rscroll_g p key w hx hs h0 (key_ne n106) (key_ne n107) (key_ne n32) (key_ne n98) (key_ne n100) (key_ne n117) (key_eq n103) (by unfold scrollL; rw [if_neg (by simp [h0]), if_neg n106, if_neg n107, if_neg n32, if_neg n98, if_neg n100, if_neg n117, if_pos n103])
  by_cases n71 : key = ⟨#[71]⟩
  · exact rscroll_G p key w hx hs h0 (key_ne n106) (key_ne n107) (key_ne n32) (key_ne n98) (key_ne n100) (key_ne n117) (key_ne n103) (key_eq n71) (by unfold scrollL; rw [if_neg (by simp [h0]), if_neg n106, if_neg n107, if_neg n32, if_neg n98, if_neg n100, if_neg n117, if_neg n103, if_pos n71])
  exact rscroll_seek p key w hx hs h0 (key_ne n106) (key_ne n107) (key_ne n32) (key_ne n98) (key_ne n100) (key_ne n117) (key_ne n103) (key_ne n71) hkl (by unfold scrollL seekL; rw [if_neg (by simp [h0]), if_neg n106, if_neg n107, if_neg n32, if_neg n98, if_neg n100, if_neg n117, if_neg n103, if_neg n71])

end Go.Proofs.YtokmiommhfbkeaaGreatDoor
