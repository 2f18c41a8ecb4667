/- The program's Scroll: a pager behind a key, for every pager of a text below 4 GiB and every key. -/
import Derived.Test.YtokmiommhfbkeaaGreatDoorPagerS
namespace Go.Proofs.YtokmiommhfbkeaaGreatDoor
open Go.RowKit

/-- a block of cells that stands open -/
def Bx (w : World) (g : Nat) (cs : Array Value) : Prop := w.heap[g]? = some (.cells cs 26 (0, 0))
theorem Bx.cell {w : World} {g : Nat} {cs : Array Value} (h : Bx w g cs) : (∀ j, w.cell? ⟨g, j, none⟩ = cs[j]?) ∧ (∀ j, w.frozen? ⟨g, j, none⟩ = false) :=
  ⟨fun j => by simp [World.cell?, show w.heap[g]? = _ from h], fun j => by simp [World.frozen?, show w.heap[g]? = _ from h]⟩
theorem Bx.lt {w : World} {g : Nat} {cs : Array Value} (h : Bx w g cs) : g < w.heap.size := lt_of_block h
theorem Bx.keep {w w' : World} {g : Nat} {cs : Array Value} (h : Bx w g cs) (hb : Below w.heap.size w w') : Bx w' g cs := (hb.block g h.lt).trans h
theorem Bx.drewN {w : World} {g : Nat} {cs : Array Value} (h : Bx w g cs) (n : Nat) : Bx (w.drewN n) g cs := h
theorem Bx.set_ {w : World} {g : Nat} {cs : Array Value} (h : Bx w g cs) (i : Nat) (u : Value) : Bx (w.setCell ⟨g, i, none⟩ u) g (cs.setIfInBounds i u) := heap_setCell_same _ _ _ _ _ _ h
theorem Bx.far {w : World} {g : Nat} {cs : Array Value} (h : Bx w g cs) {b : Nat} (hp : g ≠ b) (i : Nat) (u : Value) : Bx (w.setCell ⟨b, i, none⟩ u) g cs := (Below.heap_setCell w ⟨b, i, none⟩ u g hp).trans h
theorem two_bx (w : World) (a b : Array Value) : Bx ((w.alloc (.cells a 26)).alloc (.cells b 26)) w.heap.size a ∧ Bx ((w.alloc (.cells a 26)).alloc (.cells b 26)) (w.heap.size + 1) b := by
  have z1 : (w.alloc (.cells a 26)).heap.size = w.heap.size + 1 := by simp
  refine ⟨(Below.heap_alloc _ _ _ (by omega)).trans (heap_alloc_new w _), ?_⟩
  have := heap_alloc_new (w.alloc (.cells a 26)) (.cells b 26)
  rw [z1] at this
  exact this
abbrev zeroP : Array Value := #[.string ⟨#[]⟩, .int .i64 0, .int .i64 0, .int .i64 0, .string ⟨#[]⟩]
theorem two_below' (w : World) (o1 o2 : Obj) : Below w.heap.size w ((w.alloc o1).alloc o2) := ((Below.refl _ w).alloc (Nat.le_refl _) o1).alloc (by simp) o2
/-- a whole pager is stored into its box -/
abbrev fiveP (w : World) (g : Nat) (v0 v1 v2 v3 v4 : Value) : World := ((((w.setCell ⟨g, 0, none⟩ v0).setCell ⟨g, 1, none⟩ v1).setCell ⟨g, 2, none⟩ v2).setCell ⟨g, 3, none⟩ v3).setCell ⟨g, 4, none⟩ v4
theorem five_bx {w : World} {g : Nat} {a0 a1 a2 a3 a4 : Value} (h : Bx w g #[a0, a1, a2, a3, a4]) (v0 v1 v2 v3 v4 : Value) : Bx (fiveP w g v0 v1 v2 v3 v4) g #[v0, v1, v2, v3, v4] := by
  have := ((((h.set_ 0 v0).set_ 1 v1).set_ 2 v2).set_ 3 v3).set_ 4 v4
  rwa [show (((((#[a0, a1, a2, a3, a4] : Array Value).setIfInBounds 0 v0).setIfInBounds 1 v1).setIfInBounds 2 v2).setIfInBounds 3 v3).setIfInBounds 4 v4 = #[v0, v1, v2, v3, v4] by simp] at this
theorem five_below {B g : Nat} {w0 w : World} (h : Below B w0 w) (hg : B ≤ g) (v0 v1 v2 v3 v4 : Value) : Below B w0 (fiveP w g v0 v1 v2 v3 v4) :=
  ((((h.setCell (by exact hg) _).setCell (by exact hg) _).setCell (by exact hg) _).setCell (by exact hg) _).setCell (by exact hg) _

theorem ret_pg {text sought : ByteArray} {wide m a b : Int} {n : Value} (h : a = b) : Ending.returned (.tuple #[.agg #[.string text, .int .i64 wide, .int .i64 m, .int .i64 a, .string sought], n]) = .returned (.tuple #[.agg (pgC text wide m b sought), n]) := by rw [h]
/-- what Scroll hands back -/
def ScrollT (w : World) (r : PG × Int) (e : Ending) (w' : World) : Prop := e = .returned (.tuple #[r.1.v, .int .i64 r.2]) ∧ Below w.heap.size w w'
theorem scroll_end {W : World} {g : Nat} {v0 v1 v2 v3 v4 n : Value} {tmps : Array Value} {R : Ending → World → Prop} (hk : Bx W g #[v0, v1, v2, v3, v4]) (h4 : tmps.getD 4 undef = .pointer (some ⟨g, 0, none⟩)) (h5 : tmps.getD 5 undef = n)
    (hR : R (.returned (.tuple #[.agg #[v0, v1, v2, v3, v4], n])) W) : bodyPost Tryz.prog Tryz.f9 R .ret { tmps := tmps, defers := [] } W := by
  obtain ⟨c, z⟩ := hk.cell
  rw [Array.getD_eq_getD_getElem?] at h4 h5
  refine bodyPost_ret (v := .tuple #[.agg #[v0, v1, v2, v3, v4], n]) ?_ rfl hR
  simp [results, Tryz.results9, go_sem, h4, h5, c]

set_option maxRecDepth 100000 in
set_option maxHeartbeats 3200000 in
theorem scroll_bad (p : PG) (key : ByteArray) (w : World) (hx : MX w) (hd : Deb w) (hs : p.text.size < 4294967281) (h0 : ¬ pagerE p = 0) :
    Calls Tryz.prog 9 #[p.v, .string key] w (ScrollT w (scrollL p key)) := by
  have hS := Lib.hid (shownBy_any p ((w.alloc (.cells (pgC p.text p.wide p.high p.top p.sought) 26)).alloc (.cells zeroP 26)) (hx.keep (two_below' w _ _)) (hd.keep (two_below' w _ _)) hs)
  have HX := Lib.hid hx
  have hfin : scrollL p key = (zeroPG, pagerE p) := by unfold scrollL; rw [if_pos h0]
  rw [hfin]
  have hne : (pagerE p == 0) = false := by rw [beq_eq_false_iff_ne]; exact h0
  have H0 := Lib.hid h0
  generalize pagerE p = E at *
  obtain ⟨text, wide, high, top, sought⟩ := p
  dsimp only at *
  obtain ⟨x2, x4⟩ := two_bx w (pgC text wide high top sought) zeroP
  have X4 := Lib.hid x4
  clear hfin h0 x2 x4 hx hd hs
  go_enter Tryz.func9, Tryz.ntmps9
  go_wp2_with fail
  refine hS.out.mono ?_
  rintro e w1 ⟨hb, ⟨_, rfl⟩ | ⟨h0, _⟩⟩
  · have HB := Lib.hid (show Below w.heap.size w w1 from (two_below' w _ _).trans (hb.mono (two_below' w _ _).size))
    have K4 := Lib.hid (X4.out.keep hb)
    obtain ⟨c4, z4⟩ := K4.out.cell
    clear hb hS X4
    go_wp2
    refine scroll_end (five_bx K4.out _ _ _ _ _) rfl rfl ⟨rfl, five_below HB.out (by omega) _ _ _ _ _⟩
  · exact absurd h0 H0.out

set_option maxRecDepth 100000 in
set_option maxHeartbeats 3200000 in
theorem scroll_j (p : PG) (key : ByteArray) (w : World) (hx : MX w) (hd : Deb w) (hs : p.text.size < 4294967281) (h0 : pagerE p = 0) (f106 : (key.toList == [106]) = true) (hfin : scrollL p key = moveTo p (p.top + 1)) :
    Calls Tryz.prog 9 #[p.v, .string key] w (ScrollT w (scrollL p key)) := by
  have hS := Lib.hid (shownBy_any p ((w.alloc (.cells (pgC p.text p.wide p.high p.top p.sought) 26)).alloc (.cells zeroP 26)) (hx.keep (two_below' w _ _)) (hd.keep (two_below' w _ _)) hs)
  have HX := Lib.hid hx
  have hg := pgood h0
  rw [h0] at hS
  obtain ⟨k, m, hk, hm, hkl, hm1, hm2, hor⟩ := hi_of hg
  have hlen : p.rows.length ≤ 4000000000000 := (rows_len' p.text p.wide).1
  have e1 : IntKind.i64.wrap ((k : Int) + 1) = (k : Int) + 1 := IntWalk.i64_in _ (by omega)
  rw [hfin]
  clear hfin
  have HG := Lib.hid hg
  have hsub : IntKind.i64.wrap ((p.rows.length : Int) - (m : Int)) = (p.rows.length : Int) - (m : Int) := IntWalk.i64_in _ (by omega)
  have hdv : Int.tdiv (m : Int) 2 = (m : Int) / 2 := Int.tdiv_eq_ediv_of_nonneg (by omega)
  have hmost : p.most = max ((p.rows.length : Int) - (m : Int)) 0 := by unfold PG.most; rw [hm]
  obtain ⟨x2, x4⟩ := two_bx w (pgC p.text p.wide p.high p.top p.sought) zeroP
  have X2 := Lib.hid x2
  have X4 := Lib.hid x4
  have hrows : (rowsL p.text p.wide).1 = p.rows := rfl
  clear h0 x2 x4 hx hd hs hor hkl hg
  obtain ⟨text, wide, high, top, sought⟩ := p
  dsimp only at *
  subst hk
  subst hm
  have HROWS := Lib.hid hrows
  have HMOST := Lib.hid hmost
  clear hrows hmost
  generalize PG.rows ⟨text, wide, m, k, sought⟩ = rows at *
  go_enter Tryz.func9, Tryz.ntmps9
  go_wp2_with fail
  refine hS.out.mono ?_
  rintro e w1 ⟨hb, ⟨h0, _⟩ | ⟨_, b, rfl, hrw⟩⟩
  · exact absurd rfl h0
  have HB := Lib.hid (show Below w.heap.size w w1 from (two_below' w _ _).trans (hb.mono (two_below' w _ _).size))
  have K2 := Lib.hid (X2.out.keep hb)
  have K4 := Lib.hid (X4.out.keep hb)
  have HRW := Lib.hid hrw
  obtain ⟨hBb, v1, v2, hk', o1, o2⟩ := hrw
  obtain ⟨A1, c1', rfl⟩ := own_form o1
  have cc : ∀ j, w1.cell? ⟨b, j, none⟩ = #[Value.int .i64 wide, .slice A1 rows.length c1', v2, Value.string ⟨(rowsL text wide).2.2.toArray⟩][j]? := fun j => by simp [World.cell?, hk', HROWS.out]
  have lb : b < w1.heap.size := lt_of_block hk'
  obtain ⟨c2, _⟩ := K2.out.cell
  obtain ⟨c4, z4⟩ := K4.out.cell
  have l2 : w.heap.size < w1.heap.size := K2.out.lt
  have l4 : w.heap.size + 1 < w1.heap.size := K4.out.lt
  clear hk' o1 o2 hb hS X2 X4 hBb
  go_wp2_with fail
  have K8 := Lib.hid (show Bx (w1.alloc (.cells (pgC text wide m k sought) 26)) w1.heap.size (pgC text wide m k sought) from heap_alloc_new w1 _)
  have hb2 : Below w1.heap.size w1 (w1.alloc (.cells (pgC text wide m k sought) 26)) := (Below.refl _ w1).alloc (Nat.le_refl _) _
  have K22 := Lib.hid (K2.out.keep hb2)
  have K42 := Lib.hid (K4.out.keep hb2)
  have cc2 := fun j => (hb2.cell (p := ⟨b, j, none⟩) lb).trans (cc j)
  have HB2 := Lib.hid (HB.out.trans (hb2.mono HB.out.size))
  have HRW2 := Lib.hid (HRW.out.keepB hb2)
  have HL8 := Lib.hid (show w.heap.size + 1 < w1.heap.size from K4.out.lt)
  have HRWA := Lib.hid (fun n u => HRW.out.keepB (w' := ((w1.alloc (.cells (pgC text wide m k sought) 26)).drewN n).setCell ⟨w1.heap.size, 4, none⟩ u) ((below_drewN hb2 n).setCell (Nat.le_refl _) _))
  clear c2 c4 z4 cc l2 l4
  generalize w1.alloc (.cells (pgC text wide m k sought) 26) = wz at *
  generalize w1.heap.size = g8 at *
  obtain ⟨c2, _⟩ := K22.out.cell
  obtain ⟨c4, z4⟩ := K42.out.cell
  obtain ⟨c8, z8⟩ := K8.out.cell
  clear hb2 lb
  go_quiet (fail)
  have K23 := Lib.hid (K22.out.drewN nq)
  have K43 := Lib.hid (K42.out.drewN nq)
  have K83 := Lib.hid (K8.out.drewN nq)
  have HB3 := Lib.hid (below_drewN HB2.out nq)
  have HRW3 := Lib.hid (HRW2.out.drewN nq)
  have HRWS := Lib.hid (fun u => HRWA.out nq u)
  clear c2 c4 z4 c8 z8 cc2 HRWA K22 K42 K8 HB2 HRW2
  generalize wz.drewN nq = wq at *
  obtain ⟨c2, _⟩ := K23.out.cell
  obtain ⟨c4, z4⟩ := K43.out.cell
  obtain ⟨c8, z8⟩ := K83.out.cell
  have l8 := HL8.out
  have n8 : g8 ≠ w.heap.size := by omega
  have n9 : g8 ≠ w.heap.size + 1 := by omega
  clear l8
  go_wp2_with fail
  refine scroll_end (five_bx ((K43.out.far (Ne.symm n9) 3 _).far (Ne.symm n9) 3 _) _ _ _ _ _) rfl rfl ⟨?_, five_below ((HB3.out.setCell (by have := HL8.out; exact (by omega : w.heap.size ≤ g8)) _).setCell (by have := HL8.out; exact (by omega : w.heap.size ≤ g8)) _) (by omega) _ _ _ _ _⟩
  exact ret_pg (b := min (max ((k : Int) + 1) 0) (PG.most ⟨text, wide, m, k, sought⟩)) (by rw [HMOST.out]; try omega)
set_option maxRecDepth 100000 in
set_option maxHeartbeats 3200000 in
theorem scroll_k (p : PG) (key : ByteArray) (w : World) (hx : MX w) (hd : Deb w) (hs : p.text.size < 4294967281) (h0 : pagerE p = 0) (f106 : (key.toList == [106]) = false) (f107 : (key.toList == [107]) = true) (hfin : scrollL p key = moveTo p (p.top - 1)) :
    Calls Tryz.prog 9 #[p.v, .string key] w (ScrollT w (scrollL p key)) := by
  have hS := Lib.hid (shownBy_any p ((w.alloc (.cells (pgC p.text p.wide p.high p.top p.sought) 26)).alloc (.cells zeroP 26)) (hx.keep (two_below' w _ _)) (hd.keep (two_below' w _ _)) hs)
  have HX := Lib.hid hx
  have hg := pgood h0
  rw [h0] at hS
  obtain ⟨k, m, hk, hm, hkl, hm1, hm2, hor⟩ := hi_of hg
  have hlen : p.rows.length ≤ 4000000000000 := (rows_len' p.text p.wide).1
  have e1 : IntKind.i64.wrap ((k : Int) - 1) = (k : Int) - 1 := IntWalk.i64_in _ (by omega)
  rw [hfin]
  clear hfin
  have HG := Lib.hid hg
  have hsub : IntKind.i64.wrap ((p.rows.length : Int) - (m : Int)) = (p.rows.length : Int) - (m : Int) := IntWalk.i64_in _ (by omega)
  have hdv : Int.tdiv (m : Int) 2 = (m : Int) / 2 := Int.tdiv_eq_ediv_of_nonneg (by omega)
  have hmost : p.most = max ((p.rows.length : Int) - (m : Int)) 0 := by unfold PG.most; rw [hm]
  obtain ⟨x2, x4⟩ := two_bx w (pgC p.text p.wide p.high p.top p.sought) zeroP
  have X2 := Lib.hid x2
  have X4 := Lib.hid x4
  have hrows : (rowsL p.text p.wide).1 = p.rows := rfl
  clear h0 x2 x4 hx hd hs hor hkl hg
  obtain ⟨text, wide, high, top, sought⟩ := p
  dsimp only at *
  subst hk
  subst hm
  have HROWS := Lib.hid hrows
  have HMOST := Lib.hid hmost
  clear hrows hmost
  generalize PG.rows ⟨text, wide, m, k, sought⟩ = rows at *
  go_enter Tryz.func9, Tryz.ntmps9
  go_wp2_with fail
  refine hS.out.mono ?_
  rintro e w1 ⟨hb, ⟨h0, _⟩ | ⟨_, b, rfl, hrw⟩⟩
  · exact absurd rfl h0
  have HB := Lib.hid (show Below w.heap.size w w1 from (two_below' w _ _).trans (hb.mono (two_below' w _ _).size))
  have K2 := Lib.hid (X2.out.keep hb)
  have K4 := Lib.hid (X4.out.keep hb)
  have HRW := Lib.hid hrw
  obtain ⟨hBb, v1, v2, hk', o1, o2⟩ := hrw
  obtain ⟨A1, c1', rfl⟩ := own_form o1
  have cc : ∀ j, w1.cell? ⟨b, j, none⟩ = #[Value.int .i64 wide, .slice A1 rows.length c1', v2, Value.string ⟨(rowsL text wide).2.2.toArray⟩][j]? := fun j => by simp [World.cell?, hk', HROWS.out]
  have lb : b < w1.heap.size := lt_of_block hk'
  obtain ⟨c2, _⟩ := K2.out.cell
  obtain ⟨c4, z4⟩ := K4.out.cell
  have l2 : w.heap.size < w1.heap.size := K2.out.lt
  have l4 : w.heap.size + 1 < w1.heap.size := K4.out.lt
  clear hk' o1 o2 hb hS X2 X4 hBb
  go_wp2_with fail
  have K8 := Lib.hid (show Bx (w1.alloc (.cells (pgC text wide m k sought) 26)) w1.heap.size (pgC text wide m k sought) from heap_alloc_new w1 _)
  have hb2 : Below w1.heap.size w1 (w1.alloc (.cells (pgC text wide m k sought) 26)) := (Below.refl _ w1).alloc (Nat.le_refl _) _
  have K22 := Lib.hid (K2.out.keep hb2)
  have K42 := Lib.hid (K4.out.keep hb2)
  have cc2 := fun j => (hb2.cell (p := ⟨b, j, none⟩) lb).trans (cc j)
  have HB2 := Lib.hid (HB.out.trans (hb2.mono HB.out.size))
  have HRW2 := Lib.hid (HRW.out.keepB hb2)
  have HL8 := Lib.hid (show w.heap.size + 1 < w1.heap.size from K4.out.lt)
  have HRWA := Lib.hid (fun n u => HRW.out.keepB (w' := ((w1.alloc (.cells (pgC text wide m k sought) 26)).drewN n).setCell ⟨w1.heap.size, 4, none⟩ u) ((below_drewN hb2 n).setCell (Nat.le_refl _) _))
  clear c2 c4 z4 cc l2 l4
  generalize w1.alloc (.cells (pgC text wide m k sought) 26) = wz at *
  generalize w1.heap.size = g8 at *
  obtain ⟨c2, _⟩ := K22.out.cell
  obtain ⟨c4, z4⟩ := K42.out.cell
  obtain ⟨c8, z8⟩ := K8.out.cell
  clear hb2 lb
  go_quiet (fail)
  have K23 := Lib.hid (K22.out.drewN nq)
  have K43 := Lib.hid (K42.out.drewN nq)
  have K83 := Lib.hid (K8.out.drewN nq)
  have HB3 := Lib.hid (below_drewN HB2.out nq)
  have HRW3 := Lib.hid (HRW2.out.drewN nq)
  have HRWS := Lib.hid (fun u => HRWA.out nq u)
  clear c2 c4 z4 c8 z8 cc2 HRWA K22 K42 K8 HB2 HRW2
  generalize wz.drewN nq = wq at *
  obtain ⟨c2, _⟩ := K23.out.cell
  obtain ⟨c4, z4⟩ := K43.out.cell
  obtain ⟨c8, z8⟩ := K83.out.cell
  have l8 := HL8.out
  have n8 : g8 ≠ w.heap.size := by omega
  have n9 : g8 ≠ w.heap.size + 1 := by omega
  clear l8
  go_wp2_with fail
  refine scroll_end (five_bx ((K43.out.far (Ne.symm n9) 3 _).far (Ne.symm n9) 3 _) _ _ _ _ _) rfl rfl ⟨?_, five_below ((HB3.out.setCell (by have := HL8.out; exact (by omega : w.heap.size ≤ g8)) _).setCell (by have := HL8.out; exact (by omega : w.heap.size ≤ g8)) _) (by omega) _ _ _ _ _⟩
  exact ret_pg (b := min (max ((k : Int) - 1) 0) (PG.most ⟨text, wide, m, k, sought⟩)) (by rw [HMOST.out]; try omega)
set_option maxRecDepth 100000 in
set_option maxHeartbeats 3200000 in
theorem scroll_sp (p : PG) (key : ByteArray) (w : World) (hx : MX w) (hd : Deb w) (hs : p.text.size < 4294967281) (h0 : pagerE p = 0) (f106 : (key.toList == [106]) = false) (f107 : (key.toList == [107]) = false) (f32 : (key.toList == [32]) = true) (hfin : scrollL p key = moveTo p (p.top + p.high)) :
    Calls Tryz.prog 9 #[p.v, .string key] w (ScrollT w (scrollL p key)) := by
  have hS := Lib.hid (shownBy_any p ((w.alloc (.cells (pgC p.text p.wide p.high p.top p.sought) 26)).alloc (.cells zeroP 26)) (hx.keep (two_below' w _ _)) (hd.keep (two_below' w _ _)) hs)
  have HX := Lib.hid hx
  have hg := pgood h0
  rw [h0] at hS
  obtain ⟨k, m, hk, hm, hkl, hm1, hm2, hor⟩ := hi_of hg
  have hlen : p.rows.length ≤ 4000000000000 := (rows_len' p.text p.wide).1
  have e1 : IntKind.i64.wrap ((k : Int) + m) = (k : Int) + m := IntWalk.i64_in _ (by omega)
  rw [hfin]
  clear hfin
  have HG := Lib.hid hg
  have hsub : IntKind.i64.wrap ((p.rows.length : Int) - (m : Int)) = (p.rows.length : Int) - (m : Int) := IntWalk.i64_in _ (by omega)
  have hdv : Int.tdiv (m : Int) 2 = (m : Int) / 2 := Int.tdiv_eq_ediv_of_nonneg (by omega)
  have hmost : p.most = max ((p.rows.length : Int) - (m : Int)) 0 := by unfold PG.most; rw [hm]
  obtain ⟨x2, x4⟩ := two_bx w (pgC p.text p.wide p.high p.top p.sought) zeroP
  have X2 := Lib.hid x2
  have X4 := Lib.hid x4
  have hrows : (rowsL p.text p.wide).1 = p.rows := rfl
  clear h0 x2 x4 hx hd hs hor hkl hg
  obtain ⟨text, wide, high, top, sought⟩ := p
  dsimp only at *
  subst hk
  subst hm
  have HROWS := Lib.hid hrows
  have HMOST := Lib.hid hmost
  clear hrows hmost
  generalize PG.rows ⟨text, wide, m, k, sought⟩ = rows at *
  go_enter Tryz.func9, Tryz.ntmps9
  go_wp2_with fail
  refine hS.out.mono ?_
  rintro e w1 ⟨hb, ⟨h0, _⟩ | ⟨_, b, rfl, hrw⟩⟩
  · exact absurd rfl h0
  have HB := Lib.hid (show Below w.heap.size w w1 from (two_below' w _ _).trans (hb.mono (two_below' w _ _).size))
  have K2 := Lib.hid (X2.out.keep hb)
  have K4 := Lib.hid (X4.out.keep hb)
  have HRW := Lib.hid hrw
  obtain ⟨hBb, v1, v2, hk', o1, o2⟩ := hrw
  obtain ⟨A1, c1', rfl⟩ := own_form o1
  have cc : ∀ j, w1.cell? ⟨b, j, none⟩ = #[Value.int .i64 wide, .slice A1 rows.length c1', v2, Value.string ⟨(rowsL text wide).2.2.toArray⟩][j]? := fun j => by simp [World.cell?, hk', HROWS.out]
  have lb : b < w1.heap.size := lt_of_block hk'
  obtain ⟨c2, _⟩ := K2.out.cell
  obtain ⟨c4, z4⟩ := K4.out.cell
  have l2 : w.heap.size < w1.heap.size := K2.out.lt
  have l4 : w.heap.size + 1 < w1.heap.size := K4.out.lt
  clear hk' o1 o2 hb hS X2 X4 hBb
  go_wp2_with fail
  have K8 := Lib.hid (show Bx (w1.alloc (.cells (pgC text wide m k sought) 26)) w1.heap.size (pgC text wide m k sought) from heap_alloc_new w1 _)
  have hb2 : Below w1.heap.size w1 (w1.alloc (.cells (pgC text wide m k sought) 26)) := (Below.refl _ w1).alloc (Nat.le_refl _) _
  have K22 := Lib.hid (K2.out.keep hb2)
  have K42 := Lib.hid (K4.out.keep hb2)
  have cc2 := fun j => (hb2.cell (p := ⟨b, j, none⟩) lb).trans (cc j)
  have HB2 := Lib.hid (HB.out.trans (hb2.mono HB.out.size))
  have HRW2 := Lib.hid (HRW.out.keepB hb2)
  have HL8 := Lib.hid (show w.heap.size + 1 < w1.heap.size from K4.out.lt)
  have HRWA := Lib.hid (fun n u => HRW.out.keepB (w' := ((w1.alloc (.cells (pgC text wide m k sought) 26)).drewN n).setCell ⟨w1.heap.size, 4, none⟩ u) ((below_drewN hb2 n).setCell (Nat.le_refl _) _))
  clear c2 c4 z4 cc l2 l4
  generalize w1.alloc (.cells (pgC text wide m k sought) 26) = wz at *
  generalize w1.heap.size = g8 at *
  obtain ⟨c2, _⟩ := K22.out.cell
  obtain ⟨c4, z4⟩ := K42.out.cell
  obtain ⟨c8, z8⟩ := K8.out.cell
  clear hb2 lb
  go_quiet (fail)
  have K23 := Lib.hid (K22.out.drewN nq)
  have K43 := Lib.hid (K42.out.drewN nq)
  have K83 := Lib.hid (K8.out.drewN nq)
  have HB3 := Lib.hid (below_drewN HB2.out nq)
  have HRW3 := Lib.hid (HRW2.out.drewN nq)
  have HRWS := Lib.hid (fun u => HRWA.out nq u)
  clear c2 c4 z4 c8 z8 cc2 HRWA K22 K42 K8 HB2 HRW2
  generalize wz.drewN nq = wq at *
  obtain ⟨c2, _⟩ := K23.out.cell
  obtain ⟨c4, z4⟩ := K43.out.cell
  obtain ⟨c8, z8⟩ := K83.out.cell
  have l8 := HL8.out
  have n8 : g8 ≠ w.heap.size := by omega
  have n9 : g8 ≠ w.heap.size + 1 := by omega
  clear l8
  go_wp2_with fail
  refine scroll_end (five_bx ((K43.out.far (Ne.symm n9) 3 _).far (Ne.symm n9) 3 _) _ _ _ _ _) rfl rfl ⟨?_, five_below ((HB3.out.setCell (by have := HL8.out; exact (by omega : w.heap.size ≤ g8)) _).setCell (by have := HL8.out; exact (by omega : w.heap.size ≤ g8)) _) (by omega) _ _ _ _ _⟩
  exact ret_pg (b := min (max ((k : Int) + m) 0) (PG.most ⟨text, wide, m, k, sought⟩)) (by rw [HMOST.out]; try omega)
set_option maxRecDepth 100000 in
set_option maxHeartbeats 3200000 in
theorem scroll_b (p : PG) (key : ByteArray) (w : World) (hx : MX w) (hd : Deb w) (hs : p.text.size < 4294967281) (h0 : pagerE p = 0) (f106 : (key.toList == [106]) = false) (f107 : (key.toList == [107]) = false) (f32 : (key.toList == [32]) = false) (f98 : (key.toList == [98]) = true) (hfin : scrollL p key = moveTo p (p.top - p.high)) :
    Calls Tryz.prog 9 #[p.v, .string key] w (ScrollT w (scrollL p key)) := by
  have hS := Lib.hid (shownBy_any p ((w.alloc (.cells (pgC p.text p.wide p.high p.top p.sought) 26)).alloc (.cells zeroP 26)) (hx.keep (two_below' w _ _)) (hd.keep (two_below' w _ _)) hs)
  have HX := Lib.hid hx
  have hg := pgood h0
  rw [h0] at hS
  obtain ⟨k, m, hk, hm, hkl, hm1, hm2, hor⟩ := hi_of hg
  have hlen : p.rows.length ≤ 4000000000000 := (rows_len' p.text p.wide).1
  have e1 : IntKind.i64.wrap ((k : Int) - m) = (k : Int) - m := IntWalk.i64_in _ (by omega)
  rw [hfin]
  clear hfin
  have HG := Lib.hid hg
  have hsub : IntKind.i64.wrap ((p.rows.length : Int) - (m : Int)) = (p.rows.length : Int) - (m : Int) := IntWalk.i64_in _ (by omega)
  have hdv : Int.tdiv (m : Int) 2 = (m : Int) / 2 := Int.tdiv_eq_ediv_of_nonneg (by omega)
  have hmost : p.most = max ((p.rows.length : Int) - (m : Int)) 0 := by unfold PG.most; rw [hm]
  obtain ⟨x2, x4⟩ := two_bx w (pgC p.text p.wide p.high p.top p.sought) zeroP
  have X2 := Lib.hid x2
  have X4 := Lib.hid x4
  have hrows : (rowsL p.text p.wide).1 = p.rows := rfl
  clear h0 x2 x4 hx hd hs hor hkl hg
  obtain ⟨text, wide, high, top, sought⟩ := p
  dsimp only at *
  subst hk
  subst hm
  have HROWS := Lib.hid hrows
  have HMOST := Lib.hid hmost
  clear hrows hmost
  generalize PG.rows ⟨text, wide, m, k, sought⟩ = rows at *
  go_enter Tryz.func9, Tryz.ntmps9
  go_wp2_with fail
  refine hS.out.mono ?_
  rintro e w1 ⟨hb, ⟨h0, _⟩ | ⟨_, b, rfl, hrw⟩⟩
  · exact absurd rfl h0
  have HB := Lib.hid (show Below w.heap.size w w1 from (two_below' w _ _).trans (hb.mono (two_below' w _ _).size))
  have K2 := Lib.hid (X2.out.keep hb)
  have K4 := Lib.hid (X4.out.keep hb)
  have HRW := Lib.hid hrw
  obtain ⟨hBb, v1, v2, hk', o1, o2⟩ := hrw
  obtain ⟨A1, c1', rfl⟩ := own_form o1
  have cc : ∀ j, w1.cell? ⟨b, j, none⟩ = #[Value.int .i64 wide, .slice A1 rows.length c1', v2, Value.string ⟨(rowsL text wide).2.2.toArray⟩][j]? := fun j => by simp [World.cell?, hk', HROWS.out]
  have lb : b < w1.heap.size := lt_of_block hk'
  obtain ⟨c2, _⟩ := K2.out.cell
  obtain ⟨c4, z4⟩ := K4.out.cell
  have l2 : w.heap.size < w1.heap.size := K2.out.lt
  have l4 : w.heap.size + 1 < w1.heap.size := K4.out.lt
  clear hk' o1 o2 hb hS X2 X4 hBb
  go_wp2_with fail
  have K8 := Lib.hid (show Bx (w1.alloc (.cells (pgC text wide m k sought) 26)) w1.heap.size (pgC text wide m k sought) from heap_alloc_new w1 _)
  have hb2 : Below w1.heap.size w1 (w1.alloc (.cells (pgC text wide m k sought) 26)) := (Below.refl _ w1).alloc (Nat.le_refl _) _
  have K22 := Lib.hid (K2.out.keep hb2)
  have K42 := Lib.hid (K4.out.keep hb2)
  have cc2 := fun j => (hb2.cell (p := ⟨b, j, none⟩) lb).trans (cc j)
  have HB2 := Lib.hid (HB.out.trans (hb2.mono HB.out.size))
  have HRW2 := Lib.hid (HRW.out.keepB hb2)
  have HL8 := Lib.hid (show w.heap.size + 1 < w1.heap.size from K4.out.lt)
  have HRWA := Lib.hid (fun n u => HRW.out.keepB (w' := ((w1.alloc (.cells (pgC text wide m k sought) 26)).drewN n).setCell ⟨w1.heap.size, 4, none⟩ u) ((below_drewN hb2 n).setCell (Nat.le_refl _) _))
  clear c2 c4 z4 cc l2 l4
  generalize w1.alloc (.cells (pgC text wide m k sought) 26) = wz at *
  generalize w1.heap.size = g8 at *
  obtain ⟨c2, _⟩ := K22.out.cell
  obtain ⟨c4, z4⟩ := K42.out.cell
  obtain ⟨c8, z8⟩ := K8.out.cell
  clear hb2 lb
  go_quiet (fail)
  have K23 := Lib.hid (K22.out.drewN nq)
  have K43 := Lib.hid (K42.out.drewN nq)
  have K83 := Lib.hid (K8.out.drewN nq)
  have HB3 := Lib.hid (below_drewN HB2.out nq)
  have HRW3 := Lib.hid (HRW2.out.drewN nq)
  have HRWS := Lib.hid (fun u => HRWA.out nq u)
  clear c2 c4 z4 c8 z8 cc2 HRWA K22 K42 K8 HB2 HRW2
  generalize wz.drewN nq = wq at *
  obtain ⟨c2, _⟩ := K23.out.cell
  obtain ⟨c4, z4⟩ := K43.out.cell
  obtain ⟨c8, z8⟩ := K83.out.cell
  have l8 := HL8.out
  have n8 : g8 ≠ w.heap.size := by omega
  have n9 : g8 ≠ w.heap.size + 1 := by omega
  clear l8
  go_wp2_with fail
  refine scroll_end (five_bx ((K43.out.far (Ne.symm n9) 3 _).far (Ne.symm n9) 3 _) _ _ _ _ _) rfl rfl ⟨?_, five_below ((HB3.out.setCell (by have := HL8.out; exact (by omega : w.heap.size ≤ g8)) _).setCell (by have := HL8.out; exact (by omega : w.heap.size ≤ g8)) _) (by omega) _ _ _ _ _⟩
  exact ret_pg (b := min (max ((k : Int) - m) 0) (PG.most ⟨text, wide, m, k, sought⟩)) (by rw [HMOST.out]; try omega)
set_option maxRecDepth 100000 in
set_option maxHeartbeats 3200000 in
theorem scroll_d (p : PG) (key : ByteArray) (w : World) (hx : MX w) (hd : Deb w) (hs : p.text.size < 4294967281) (h0 : pagerE p = 0) (f106 : (key.toList == [106]) = false) (f107 : (key.toList == [107]) = false) (f32 : (key.toList == [32]) = false) (f98 : (key.toList == [98]) = false) (f100 : (key.toList == [100]) = true) (hfin : scrollL p key = moveTo p (p.top + max (p.high / 2) 1)) :
    Calls Tryz.prog 9 #[p.v, .string key] w (ScrollT w (scrollL p key)) := by
  have hS := Lib.hid (shownBy_any p ((w.alloc (.cells (pgC p.text p.wide p.high p.top p.sought) 26)).alloc (.cells zeroP 26)) (hx.keep (two_below' w _ _)) (hd.keep (two_below' w _ _)) hs)
  have HX := Lib.hid hx
  have hg := pgood h0
  rw [h0] at hS
  obtain ⟨k, m, hk, hm, hkl, hm1, hm2, hor⟩ := hi_of hg
  have hlen : p.rows.length ≤ 4000000000000 := (rows_len' p.text p.wide).1
  have e1 : IntKind.i64.wrap ((k : Int) + max ((m : Int) / 2) 1) = (k : Int) + max ((m : Int) / 2) 1 := IntWalk.i64_in _ (by omega)
  rw [hfin]
  clear hfin
  have HG := Lib.hid hg
  have hsub : IntKind.i64.wrap ((p.rows.length : Int) - (m : Int)) = (p.rows.length : Int) - (m : Int) := IntWalk.i64_in _ (by omega)
  have hdv : Int.tdiv (m : Int) 2 = (m : Int) / 2 := Int.tdiv_eq_ediv_of_nonneg (by omega)
  have hmost : p.most = max ((p.rows.length : Int) - (m : Int)) 0 := by unfold PG.most; rw [hm]
  obtain ⟨x2, x4⟩ := two_bx w (pgC p.text p.wide p.high p.top p.sought) zeroP
  have X2 := Lib.hid x2
  have X4 := Lib.hid x4
  have hrows : (rowsL p.text p.wide).1 = p.rows := rfl
  clear h0 x2 x4 hx hd hs hor hkl hg
  obtain ⟨text, wide, high, top, sought⟩ := p
  dsimp only at *
  subst hk
  subst hm
  have HROWS := Lib.hid hrows
  have HMOST := Lib.hid hmost
  clear hrows hmost
  generalize PG.rows ⟨text, wide, m, k, sought⟩ = rows at *
  go_enter Tryz.func9, Tryz.ntmps9
  go_wp2_with fail
  refine hS.out.mono ?_
  rintro e w1 ⟨hb, ⟨h0, _⟩ | ⟨_, b, rfl, hrw⟩⟩
  · exact absurd rfl h0
  have HB := Lib.hid (show Below w.heap.size w w1 from (two_below' w _ _).trans (hb.mono (two_below' w _ _).size))
  have K2 := Lib.hid (X2.out.keep hb)
  have K4 := Lib.hid (X4.out.keep hb)
  have HRW := Lib.hid hrw
  obtain ⟨hBb, v1, v2, hk', o1, o2⟩ := hrw
  obtain ⟨A1, c1', rfl⟩ := own_form o1
  have cc : ∀ j, w1.cell? ⟨b, j, none⟩ = #[Value.int .i64 wide, .slice A1 rows.length c1', v2, Value.string ⟨(rowsL text wide).2.2.toArray⟩][j]? := fun j => by simp [World.cell?, hk', HROWS.out]
  have lb : b < w1.heap.size := lt_of_block hk'
  obtain ⟨c2, _⟩ := K2.out.cell
  obtain ⟨c4, z4⟩ := K4.out.cell
  have l2 : w.heap.size < w1.heap.size := K2.out.lt
  have l4 : w.heap.size + 1 < w1.heap.size := K4.out.lt
  clear hk' o1 o2 hb hS X2 X4 hBb
  go_wp2_with fail
  have K8 := Lib.hid (show Bx (w1.alloc (.cells (pgC text wide m k sought) 26)) w1.heap.size (pgC text wide m k sought) from heap_alloc_new w1 _)
  have hb2 : Below w1.heap.size w1 (w1.alloc (.cells (pgC text wide m k sought) 26)) := (Below.refl _ w1).alloc (Nat.le_refl _) _
  have K22 := Lib.hid (K2.out.keep hb2)
  have K42 := Lib.hid (K4.out.keep hb2)
  have cc2 := fun j => (hb2.cell (p := ⟨b, j, none⟩) lb).trans (cc j)
  have HB2 := Lib.hid (HB.out.trans (hb2.mono HB.out.size))
  have HRW2 := Lib.hid (HRW.out.keepB hb2)
  have HL8 := Lib.hid (show w.heap.size + 1 < w1.heap.size from K4.out.lt)
  have HRWA := Lib.hid (fun n u => HRW.out.keepB (w' := ((w1.alloc (.cells (pgC text wide m k sought) 26)).drewN n).setCell ⟨w1.heap.size, 4, none⟩ u) ((below_drewN hb2 n).setCell (Nat.le_refl _) _))
  clear c2 c4 z4 cc l2 l4
  generalize w1.alloc (.cells (pgC text wide m k sought) 26) = wz at *
  generalize w1.heap.size = g8 at *
  obtain ⟨c2, _⟩ := K22.out.cell
  obtain ⟨c4, z4⟩ := K42.out.cell
  obtain ⟨c8, z8⟩ := K8.out.cell
  clear hb2 lb
  go_quiet (fail)
  have K23 := Lib.hid (K22.out.drewN nq)
  have K43 := Lib.hid (K42.out.drewN nq)
  have K83 := Lib.hid (K8.out.drewN nq)
  have HB3 := Lib.hid (below_drewN HB2.out nq)
  have HRW3 := Lib.hid (HRW2.out.drewN nq)
  have HRWS := Lib.hid (fun u => HRWA.out nq u)
  clear c2 c4 z4 c8 z8 cc2 HRWA K22 K42 K8 HB2 HRW2
  generalize wz.drewN nq = wq at *
  obtain ⟨c2, _⟩ := K23.out.cell
  obtain ⟨c4, z4⟩ := K43.out.cell
  obtain ⟨c8, z8⟩ := K83.out.cell
  have l8 := HL8.out
  have n8 : g8 ≠ w.heap.size := by omega
  have n9 : g8 ≠ w.heap.size + 1 := by omega
  clear l8
  go_wp2_with fail
  refine scroll_end (five_bx ((K43.out.far (Ne.symm n9) 3 _).far (Ne.symm n9) 3 _) _ _ _ _ _) rfl rfl ⟨?_, five_below ((HB3.out.setCell (by have := HL8.out; exact (by omega : w.heap.size ≤ g8)) _).setCell (by have := HL8.out; exact (by omega : w.heap.size ≤ g8)) _) (by omega) _ _ _ _ _⟩
  exact ret_pg (b := min (max ((k : Int) + max ((m : Int) / 2) 1) 0) (PG.most ⟨text, wide, m, k, sought⟩)) (by rw [HMOST.out]; try omega)
set_option maxRecDepth 100000 in
set_option maxHeartbeats 3200000 in
theorem scroll_u (p : PG) (key : ByteArray) (w : World) (hx : MX w) (hd : Deb w) (hs : p.text.size < 4294967281) (h0 : pagerE p = 0) (f106 : (key.toList == [106]) = false) (f107 : (key.toList == [107]) = false) (f32 : (key.toList == [32]) = false) (f98 : (key.toList == [98]) = false) (f100 : (key.toList == [100]) = false) (f117 : (key.toList == [117]) = true) (hfin : scrollL p key = moveTo p (p.top - max (p.high / 2) 1)) :
    Calls Tryz.prog 9 #[p.v, .string key] w (ScrollT w (scrollL p key)) := by
  have hS := Lib.hid (shownBy_any p ((w.alloc (.cells (pgC p.text p.wide p.high p.top p.sought) 26)).alloc (.cells zeroP 26)) (hx.keep (two_below' w _ _)) (hd.keep (two_below' w _ _)) hs)
  have HX := Lib.hid hx
  have hg := pgood h0
  rw [h0] at hS
  obtain ⟨k, m, hk, hm, hkl, hm1, hm2, hor⟩ := hi_of hg
  have hlen : p.rows.length ≤ 4000000000000 := (rows_len' p.text p.wide).1
  have e1 : IntKind.i64.wrap ((k : Int) - max ((m : Int) / 2) 1) = (k : Int) - max ((m : Int) / 2) 1 := IntWalk.i64_in _ (by omega)
  rw [hfin]
  clear hfin
  have HG := Lib.hid hg
  have hsub : IntKind.i64.wrap ((p.rows.length : Int) - (m : Int)) = (p.rows.length : Int) - (m : Int) := IntWalk.i64_in _ (by omega)
  have hdv : Int.tdiv (m : Int) 2 = (m : Int) / 2 := Int.tdiv_eq_ediv_of_nonneg (by omega)
  have hmost : p.most = max ((p.rows.length : Int) - (m : Int)) 0 := by unfold PG.most; rw [hm]
  obtain ⟨x2, x4⟩ := two_bx w (pgC p.text p.wide p.high p.top p.sought) zeroP
  have X2 := Lib.hid x2
  have X4 := Lib.hid x4
  have hrows : (rowsL p.text p.wide).1 = p.rows := rfl
  clear h0 x2 x4 hx hd hs hor hkl hg
  obtain ⟨text, wide, high, top, sought⟩ := p
  dsimp only at *
  subst hk
  subst hm
  have HROWS := Lib.hid hrows
  have HMOST := Lib.hid hmost
  clear hrows hmost
  generalize PG.rows ⟨text, wide, m, k, sought⟩ = rows at *
  go_enter Tryz.func9, Tryz.ntmps9
  go_wp2_with fail
  refine hS.out.mono ?_
  rintro e w1 ⟨hb, ⟨h0, _⟩ | ⟨_, b, rfl, hrw⟩⟩
  · exact absurd rfl h0
  have HB := Lib.hid (show Below w.heap.size w w1 from (two_below' w _ _).trans (hb.mono (two_below' w _ _).size))
  have K2 := Lib.hid (X2.out.keep hb)
  have K4 := Lib.hid (X4.out.keep hb)
  have HRW := Lib.hid hrw
  obtain ⟨hBb, v1, v2, hk', o1, o2⟩ := hrw
  obtain ⟨A1, c1', rfl⟩ := own_form o1
  have cc : ∀ j, w1.cell? ⟨b, j, none⟩ = #[Value.int .i64 wide, .slice A1 rows.length c1', v2, Value.string ⟨(rowsL text wide).2.2.toArray⟩][j]? := fun j => by simp [World.cell?, hk', HROWS.out]
  have lb : b < w1.heap.size := lt_of_block hk'
  obtain ⟨c2, _⟩ := K2.out.cell
  obtain ⟨c4, z4⟩ := K4.out.cell
  have l2 : w.heap.size < w1.heap.size := K2.out.lt
  have l4 : w.heap.size + 1 < w1.heap.size := K4.out.lt
  clear hk' o1 o2 hb hS X2 X4 hBb
  go_wp2_with fail
  have K8 := Lib.hid (show Bx (w1.alloc (.cells (pgC text wide m k sought) 26)) w1.heap.size (pgC text wide m k sought) from heap_alloc_new w1 _)
  have hb2 : Below w1.heap.size w1 (w1.alloc (.cells (pgC text wide m k sought) 26)) := (Below.refl _ w1).alloc (Nat.le_refl _) _
  have K22 := Lib.hid (K2.out.keep hb2)
  have K42 := Lib.hid (K4.out.keep hb2)
  have cc2 := fun j => (hb2.cell (p := ⟨b, j, none⟩) lb).trans (cc j)
  have HB2 := Lib.hid (HB.out.trans (hb2.mono HB.out.size))
  have HRW2 := Lib.hid (HRW.out.keepB hb2)
  have HL8 := Lib.hid (show w.heap.size + 1 < w1.heap.size from K4.out.lt)
  have HRWA := Lib.hid (fun n u => HRW.out.keepB (w' := ((w1.alloc (.cells (pgC text wide m k sought) 26)).drewN n).setCell ⟨w1.heap.size, 4, none⟩ u) ((below_drewN hb2 n).setCell (Nat.le_refl _) _))
  clear c2 c4 z4 cc l2 l4
  generalize w1.alloc (.cells (pgC text wide m k sought) 26) = wz at *
  generalize w1.heap.size = g8 at *
  obtain ⟨c2, _⟩ := K22.out.cell
  obtain ⟨c4, z4⟩ := K42.out.cell
  obtain ⟨c8, z8⟩ := K8.out.cell
  clear hb2 lb
  go_quiet (fail)
  have K23 := Lib.hid (K22.out.drewN nq)
  have K43 := Lib.hid (K42.out.drewN nq)
  have K83 := Lib.hid (K8.out.drewN nq)
  have HB3 := Lib.hid (below_drewN HB2.out nq)
  have HRW3 := Lib.hid (HRW2.out.drewN nq)
  have HRWS := Lib.hid (fun u => HRWA.out nq u)
  clear c2 c4 z4 c8 z8 cc2 HRWA K22 K42 K8 HB2 HRW2
  generalize wz.drewN nq = wq at *
  obtain ⟨c2, _⟩ := K23.out.cell
  obtain ⟨c4, z4⟩ := K43.out.cell
  obtain ⟨c8, z8⟩ := K83.out.cell
  have l8 := HL8.out
  have n8 : g8 ≠ w.heap.size := by omega
  have n9 : g8 ≠ w.heap.size + 1 := by omega
  clear l8
  go_wp2_with fail
  refine scroll_end (five_bx ((K43.out.far (Ne.symm n9) 3 _).far (Ne.symm n9) 3 _) _ _ _ _ _) rfl rfl ⟨?_, five_below ((HB3.out.setCell (by have := HL8.out; exact (by omega : w.heap.size ≤ g8)) _).setCell (by have := HL8.out; exact (by omega : w.heap.size ≤ g8)) _) (by omega) _ _ _ _ _⟩
  exact ret_pg (b := min (max ((k : Int) - max ((m : Int) / 2) 1) 0) (PG.most ⟨text, wide, m, k, sought⟩)) (by rw [HMOST.out]; try omega)
set_option maxRecDepth 100000 in
set_option maxHeartbeats 3200000 in
theorem scroll_g (p : PG) (key : ByteArray) (w : World) (hx : MX w) (hd : Deb w) (hs : p.text.size < 4294967281) (h0 : pagerE p = 0) (f106 : (key.toList == [106]) = false) (f107 : (key.toList == [107]) = false) (f32 : (key.toList == [32]) = false) (f98 : (key.toList == [98]) = false) (f100 : (key.toList == [100]) = false) (f117 : (key.toList == [117]) = false) (f103 : (key.toList == [103]) = true) (hfin : scrollL p key = moveTo p (0)) :
    Calls Tryz.prog 9 #[p.v, .string key] w (ScrollT w (scrollL p key)) := by
  have hS := Lib.hid (shownBy_any p ((w.alloc (.cells (pgC p.text p.wide p.high p.top p.sought) 26)).alloc (.cells zeroP 26)) (hx.keep (two_below' w _ _)) (hd.keep (two_below' w _ _)) hs)
  have HX := Lib.hid hx
  have hg := pgood h0
  rw [h0] at hS
  obtain ⟨k, m, hk, hm, hkl, hm1, hm2, hor⟩ := hi_of hg
  have hlen : p.rows.length ≤ 4000000000000 := (rows_len' p.text p.wide).1
  rw [hfin]
  clear hfin
  have HG := Lib.hid hg
  have hsub : IntKind.i64.wrap ((p.rows.length : Int) - (m : Int)) = (p.rows.length : Int) - (m : Int) := IntWalk.i64_in _ (by omega)
  have hdv : Int.tdiv (m : Int) 2 = (m : Int) / 2 := Int.tdiv_eq_ediv_of_nonneg (by omega)
  have hmost : p.most = max ((p.rows.length : Int) - (m : Int)) 0 := by unfold PG.most; rw [hm]
  obtain ⟨x2, x4⟩ := two_bx w (pgC p.text p.wide p.high p.top p.sought) zeroP
  have X2 := Lib.hid x2
  have X4 := Lib.hid x4
  have hrows : (rowsL p.text p.wide).1 = p.rows := rfl
  clear h0 x2 x4 hx hd hs hor hkl hg
  obtain ⟨text, wide, high, top, sought⟩ := p
  dsimp only at *
  subst hk
  subst hm
  have HROWS := Lib.hid hrows
  have HMOST := Lib.hid hmost
  clear hrows hmost
  generalize PG.rows ⟨text, wide, m, k, sought⟩ = rows at *
  go_enter Tryz.func9, Tryz.ntmps9
  go_wp2_with fail
  refine hS.out.mono ?_
  rintro e w1 ⟨hb, ⟨h0, _⟩ | ⟨_, b, rfl, hrw⟩⟩
  · exact absurd rfl h0
  have HB := Lib.hid (show Below w.heap.size w w1 from (two_below' w _ _).trans (hb.mono (two_below' w _ _).size))
  have K2 := Lib.hid (X2.out.keep hb)
  have K4 := Lib.hid (X4.out.keep hb)
  have HRW := Lib.hid hrw
  obtain ⟨hBb, v1, v2, hk', o1, o2⟩ := hrw
  obtain ⟨A1, c1', rfl⟩ := own_form o1
  have cc : ∀ j, w1.cell? ⟨b, j, none⟩ = #[Value.int .i64 wide, .slice A1 rows.length c1', v2, Value.string ⟨(rowsL text wide).2.2.toArray⟩][j]? := fun j => by simp [World.cell?, hk', HROWS.out]
  have lb : b < w1.heap.size := lt_of_block hk'
  obtain ⟨c2, _⟩ := K2.out.cell
  obtain ⟨c4, z4⟩ := K4.out.cell
  have l2 : w.heap.size < w1.heap.size := K2.out.lt
  have l4 : w.heap.size + 1 < w1.heap.size := K4.out.lt
  clear hk' o1 o2 hb hS X2 X4 hBb
  go_wp2_with fail
  have K8 := Lib.hid (show Bx (w1.alloc (.cells (pgC text wide m k sought) 26)) w1.heap.size (pgC text wide m k sought) from heap_alloc_new w1 _)
  have hb2 : Below w1.heap.size w1 (w1.alloc (.cells (pgC text wide m k sought) 26)) := (Below.refl _ w1).alloc (Nat.le_refl _) _
  have K22 := Lib.hid (K2.out.keep hb2)
  have K42 := Lib.hid (K4.out.keep hb2)
  have cc2 := fun j => (hb2.cell (p := ⟨b, j, none⟩) lb).trans (cc j)
  have HB2 := Lib.hid (HB.out.trans (hb2.mono HB.out.size))
  have HRW2 := Lib.hid (HRW.out.keepB hb2)
  have HL8 := Lib.hid (show w.heap.size + 1 < w1.heap.size from K4.out.lt)
  have HRWA := Lib.hid (fun n u => HRW.out.keepB (w' := ((w1.alloc (.cells (pgC text wide m k sought) 26)).drewN n).setCell ⟨w1.heap.size, 4, none⟩ u) ((below_drewN hb2 n).setCell (Nat.le_refl _) _))
  clear c2 c4 z4 cc l2 l4
  generalize w1.alloc (.cells (pgC text wide m k sought) 26) = wz at *
  generalize w1.heap.size = g8 at *
  obtain ⟨c2, _⟩ := K22.out.cell
  obtain ⟨c4, z4⟩ := K42.out.cell
  obtain ⟨c8, z8⟩ := K8.out.cell
  clear hb2 lb
  go_quiet (fail)
  have K23 := Lib.hid (K22.out.drewN nq)
  have K43 := Lib.hid (K42.out.drewN nq)
  have K83 := Lib.hid (K8.out.drewN nq)
  have HB3 := Lib.hid (below_drewN HB2.out nq)
  have HRW3 := Lib.hid (HRW2.out.drewN nq)
  have HRWS := Lib.hid (fun u => HRWA.out nq u)
  clear c2 c4 z4 c8 z8 cc2 HRWA K22 K42 K8 HB2 HRW2
  generalize wz.drewN nq = wq at *
  obtain ⟨c2, _⟩ := K23.out.cell
  obtain ⟨c4, z4⟩ := K43.out.cell
  obtain ⟨c8, z8⟩ := K83.out.cell
  have l8 := HL8.out
  have n8 : g8 ≠ w.heap.size := by omega
  have n9 : g8 ≠ w.heap.size + 1 := by omega
  clear l8
  go_wp2_with fail
  refine scroll_end (five_bx ((K43.out.far (Ne.symm n9) 3 _).far (Ne.symm n9) 3 _) _ _ _ _ _) rfl rfl ⟨?_, five_below ((HB3.out.setCell (by have := HL8.out; exact (by omega : w.heap.size ≤ g8)) _).setCell (by have := HL8.out; exact (by omega : w.heap.size ≤ g8)) _) (by omega) _ _ _ _ _⟩
  exact ret_pg (b := min (max (0) 0) (PG.most ⟨text, wide, m, k, sought⟩)) (by rw [HMOST.out]; try omega)
set_option maxRecDepth 100000 in
set_option maxHeartbeats 3200000 in
theorem scroll_G (p : PG) (key : ByteArray) (w : World) (hx : MX w) (hd : Deb w) (hs : p.text.size < 4294967281) (h0 : pagerE p = 0) (f106 : (key.toList == [106]) = false) (f107 : (key.toList == [107]) = false) (f32 : (key.toList == [32]) = false) (f98 : (key.toList == [98]) = false) (f100 : (key.toList == [100]) = false) (f117 : (key.toList == [117]) = false) (f103 : (key.toList == [103]) = false) (f71 : (key.toList == [71]) = true) (hfin : scrollL p key = moveTo p (p.most)) :
    Calls Tryz.prog 9 #[p.v, .string key] w (ScrollT w (scrollL p key)) := by
  have hS := Lib.hid (shownBy_any p ((w.alloc (.cells (pgC p.text p.wide p.high p.top p.sought) 26)).alloc (.cells zeroP 26)) (hx.keep (two_below' w _ _)) (hd.keep (two_below' w _ _)) hs)
  have HX := Lib.hid hx
  have hg := pgood h0
  rw [h0] at hS
  obtain ⟨k, m, hk, hm, hkl, hm1, hm2, hor⟩ := hi_of hg
  have hlen : p.rows.length ≤ 4000000000000 := (rows_len' p.text p.wide).1
  rw [hfin]
  clear hfin
  have HG := Lib.hid hg
  have hsub : IntKind.i64.wrap ((p.rows.length : Int) - (m : Int)) = (p.rows.length : Int) - (m : Int) := IntWalk.i64_in _ (by omega)
  have hdv : Int.tdiv (m : Int) 2 = (m : Int) / 2 := Int.tdiv_eq_ediv_of_nonneg (by omega)
  have hmost : p.most = max ((p.rows.length : Int) - (m : Int)) 0 := by unfold PG.most; rw [hm]
  obtain ⟨x2, x4⟩ := two_bx w (pgC p.text p.wide p.high p.top p.sought) zeroP
  have X2 := Lib.hid x2
  have X4 := Lib.hid x4
  have hrows : (rowsL p.text p.wide).1 = p.rows := rfl
  clear h0 x2 x4 hx hd hs hor hkl hg
  obtain ⟨text, wide, high, top, sought⟩ := p
  dsimp only at *
  subst hk
  subst hm
  have HROWS := Lib.hid hrows
  have HMOST := Lib.hid hmost
  clear hrows hmost
  generalize PG.rows ⟨text, wide, m, k, sought⟩ = rows at *
  go_enter Tryz.func9, Tryz.ntmps9
  go_wp2_with fail
  refine hS.out.mono ?_
  rintro e w1 ⟨hb, ⟨h0, _⟩ | ⟨_, b, rfl, hrw⟩⟩
  · exact absurd rfl h0
  have HB := Lib.hid (show Below w.heap.size w w1 from (two_below' w _ _).trans (hb.mono (two_below' w _ _).size))
  have K2 := Lib.hid (X2.out.keep hb)
  have K4 := Lib.hid (X4.out.keep hb)
  have HRW := Lib.hid hrw
  obtain ⟨hBb, v1, v2, hk', o1, o2⟩ := hrw
  obtain ⟨A1, c1', rfl⟩ := own_form o1
  have cc : ∀ j, w1.cell? ⟨b, j, none⟩ = #[Value.int .i64 wide, .slice A1 rows.length c1', v2, Value.string ⟨(rowsL text wide).2.2.toArray⟩][j]? := fun j => by simp [World.cell?, hk', HROWS.out]
  have lb : b < w1.heap.size := lt_of_block hk'
  obtain ⟨c2, _⟩ := K2.out.cell
  obtain ⟨c4, z4⟩ := K4.out.cell
  have l2 : w.heap.size < w1.heap.size := K2.out.lt
  have l4 : w.heap.size + 1 < w1.heap.size := K4.out.lt
  clear hk' o1 o2 hb hS X2 X4 hBb
  go_wp2_with fail
  have K8 := Lib.hid (show Bx (w1.alloc (.cells (pgC text wide m k sought) 26)) w1.heap.size (pgC text wide m k sought) from heap_alloc_new w1 _)
  have hb2 : Below w1.heap.size w1 (w1.alloc (.cells (pgC text wide m k sought) 26)) := (Below.refl _ w1).alloc (Nat.le_refl _) _
  have K22 := Lib.hid (K2.out.keep hb2)
  have K42 := Lib.hid (K4.out.keep hb2)
  have cc2 := fun j => (hb2.cell (p := ⟨b, j, none⟩) lb).trans (cc j)
  have HB2 := Lib.hid (HB.out.trans (hb2.mono HB.out.size))
  have HRW2 := Lib.hid (HRW.out.keepB hb2)
  have HL8 := Lib.hid (show w.heap.size + 1 < w1.heap.size from K4.out.lt)
  have HRWA := Lib.hid (fun n u => HRW.out.keepB (w' := ((w1.alloc (.cells (pgC text wide m k sought) 26)).drewN n).setCell ⟨w1.heap.size, 4, none⟩ u) ((below_drewN hb2 n).setCell (Nat.le_refl _) _))
  clear c2 c4 z4 cc l2 l4
  generalize w1.alloc (.cells (pgC text wide m k sought) 26) = wz at *
  generalize w1.heap.size = g8 at *
  obtain ⟨c2, _⟩ := K22.out.cell
  obtain ⟨c4, z4⟩ := K42.out.cell
  obtain ⟨c8, z8⟩ := K8.out.cell
  clear hb2 lb
  go_quiet (fail)
  have K23 := Lib.hid (K22.out.drewN nq)
  have K43 := Lib.hid (K42.out.drewN nq)
  have K83 := Lib.hid (K8.out.drewN nq)
  have HB3 := Lib.hid (below_drewN HB2.out nq)
  have HRW3 := Lib.hid (HRW2.out.drewN nq)
  have HRWS := Lib.hid (fun u => HRWA.out nq u)
  clear c2 c4 z4 c8 z8 cc2 HRWA K22 K42 K8 HB2 HRW2
  generalize wz.drewN nq = wq at *
  obtain ⟨c2, _⟩ := K23.out.cell
  obtain ⟨c4, z4⟩ := K43.out.cell
  obtain ⟨c8, z8⟩ := K83.out.cell
  have l8 := HL8.out
  have n8 : g8 ≠ w.heap.size := by omega
  have n9 : g8 ≠ w.heap.size + 1 := by omega
  clear l8
  go_wp2_with fail
  refine scroll_end (five_bx ((K43.out.far (Ne.symm n9) 3 _).far (Ne.symm n9) 3 _) _ _ _ _ _) rfl rfl ⟨?_, five_below ((HB3.out.setCell (by have := HL8.out; exact (by omega : w.heap.size ≤ g8)) _).setCell (by have := HL8.out; exact (by omega : w.heap.size ≤ g8)) _) (by omega) _ _ _ _ _⟩
  exact ret_pg (b := min (max ((PG.most ⟨text, wide, m, k, sought⟩)) 0) (PG.most ⟨text, wide, m, k, sought⟩)) (by rw [HMOST.out]; try omega)
end Go.Proofs.YtokmiommhfbkeaaGreatDoor
