/- The program's and the reference's Visible: the rows that a pager shows. -/
import Derived.Test.YtokmiommhfbkeaaGreatDoorPagerR
namespace Go.Proofs.YtokmiommhfbkeaaGreatDoor
open Go.RowKit

theorem SL.sub {w : World} {A : Option Addr} {n c i j : Nat} {l : List ByteArray} (h : SL w (.slice A n c) l) (hi : i ≤ j) (hj : j ≤ n) : SL w (.slice (Option.map (fun x => x.add i) A) (j - i) (c - i)) ((l.take j).drop i) := by
  have hn := h.len
  subst hn
  obtain ⟨A', c', e, hcap, h⟩ := h
  injection e with e1 e2 e3
  subst e1; subst e3
  have hlen : ((l.take j).drop i).length = j - i := by rw [List.length_drop, List.length_take]; omega
  refine ⟨_, c - i, by rw [hlen], by rw [hlen]; omega, fun hn => ?_⟩
  obtain ⟨b, off, rfl, hlt, hcell⟩ := h (by omega)
  refine ⟨b, off + i, by rw [Option.map_some, WideShapes.add_plain], hlt, fun k hk => ?_⟩
  rw [hlen] at hk
  have := hcell (i + k) (by omega)
  rw [List.getElem_drop, List.getElem_take, ← this, Nat.add_assoc]
theorem SL.sub0 {w : World} {A : Option Addr} {n i j : Nat} {l : List ByteArray} (h : SL w (.slice A n i) l) (hi : i ≤ j) (hj : j ≤ n) : SL w (.slice A (j - i) 0) ((l.take j).drop i) := by
  have hn := h.len
  subst hn
  obtain ⟨A', c', e, hcap, h⟩ := h
  injection e with e1 e2 e3
  have hlen : ((l.take j).drop i).length = j - i := by rw [List.length_drop, List.length_take]; omega
  exact ⟨A, 0, by rw [hlen], by rw [hlen]; omega, fun hn => by omega⟩
/-- the empty part of a slice -/
theorem SL.none_of (w : World) (A : Option Addr) (c : Nat) : SL w (.slice A 0 c) [] := ⟨A, c, rfl, Nat.zero_le _, fun h => by simp at h⟩

theorem hi_of {p : PG} (h : PGood p) : ∃ k m : Nat, p.top = (k : Int) ∧ p.high = (m : Int) ∧ k ≤ p.rows.length ∧ 1 ≤ m ∧ m ≤ 200 ∧ (p.rows.length = 0 ∨ k < p.rows.length) := by
  have h1 := h.top
  have h2 := h.high
  unfold PG.most at h1
  exact ⟨p.top.toNat, p.high.toNat, by omega, by omega, by omega, by omega, by omega, by omega⟩

set_option maxRecDepth 100000 in
set_option maxHeartbeats 1600000 in
theorem visible_any (p : PG) (w : World) (hx : MX w) (hd : Deb w) (hs : p.text.size < 4294967281) :
    Calls Tryz.prog 11 #[p.v] w (GaveE w (visL p) (pagerE p)) := by
  have hS := Lib.hid (shownBy_any p (w.alloc (.cells (pgC p.text p.wide p.high p.top p.sought) 26)) (hx.keep (pager_box w _)) (hd.keep (pager_box w _)) hs)
  have hbx := box_new w (pgC p.text p.wide p.high p.top p.sought) 26
  clear hx hd hs
  by_cases h0 : pagerE p = 0
  · have hv : visL p = (p.rows.take (min (p.top + p.high) p.rows.length).toNat).drop p.top.toNat := by unfold visL; rw [if_pos h0]
    obtain ⟨k, m, hk, hm, hkl, hm1, hm2, hor⟩ := hi_of (pgood h0)
    have hlen : p.rows.length ≤ 4000000000000 := (rows_len' p.text p.wide).1
    have hmin : (min (p.top + p.high) p.rows.length).toNat = min (k + m) p.rows.length := by omega
    rw [hv, h0, hmin]
    rw [h0] at hS
    clear hv h0 hmin
    obtain ⟨text, wide, high, top, sought⟩ := p
    dsimp only at *
    subst hk
    subst hm
    obtain ⟨rows, hr⟩ : ∃ rows, (PG.rows ⟨text, wide, m, k, sought⟩) = rows := ⟨_, rfl⟩
    have hr' : (rowsL text wide).1 = rows := hr
    rw [hr] at hkl hlen hor ⊢
    rw [Int.toNat_natCast]
    have HR := Lib.hid hr'
    clear hr hr'
    go_enter Tryz.func11, Tryz.ntmps11
    go_wp2_with fail
    refine hS.out.mono ?_
    rintro e w1 ⟨hb, ⟨h0, _⟩ | ⟨_, b, rfl, hrw⟩⟩
    · exact absurd rfl h0
    obtain ⟨cx, lx⟩ := box_keep hbx.1 hbx.2 hb
    have HB := Lib.hid (show Below w.heap.size w w1 from (pager_box w _).trans (hb.mono (by simp)))
    obtain ⟨hBb, v1, v2, hk', o1, o2⟩ := hrw
    obtain ⟨A1, c1', rfl⟩ := own_form o1
    have HS1 := Lib.hid (SL.of_own o1)
    rw [HR.out] at HS1
    have cc : ∀ j, w1.cell? ⟨b, j, none⟩ = #[Value.int .i64 wide, .slice A1 rows.length c1', v2, Value.string ⟨(rowsL text wide).2.2.toArray⟩][j]? := fun j => by simp [World.cell?, hk', HR.out]
    have hcap : rows.length ≤ c1' := by
      obtain ⟨_, _, e1, e2, _⟩ := HS1.out
      injection e1 with _ _ e3
      omega
    have HO := Lib.hid hor
    clear hk' o1 o2 hb hS hbx hBb HR hor
    have hsum : IntKind.i64.wrap ((k : Int) + (m : Int)) = (k : Int) + (m : Int) := IntWalk.i64_in _ (by omega)
    have HB1 := Lib.hid (show (0 : Int) ≤ min ((k : Int) + (m : Int)) (rows.length : Int) ∧ min ((k : Int) + (m : Int)) (rows.length : Int) ≤ (c1' : Int) by omega)
    have HB2 := Lib.hid (show k ≤ (min ((k : Int) + (m : Int)) (rows.length : Int)).toNat by omega)
    go_wp2_with fail
    go_still_tail 18, (by kernel_rfl)
    refine wpStill_step (fun K hK => ?_)
    go_simp
    rw [if_pos HB1.out, if_pos HB2.out]
    refine ⟨rfl, hK _ ?_⟩
    clear hK K
    repeat still_step
    refine wpStill_nil ?_
    have HM := Lib.hid (show (min ((k : Int) + (m : Int)) (rows.length : Int)).toNat = min (k + m) rows.length by omega)
    go_wp2_with fail
    · rw [HM.out]
      refine (clone_any ((rows.take (min (k + m) rows.length)).drop k) _ _ ((show SL w1.drew (.slice A1 rows.length k) rows from (show c1' = k by assumption) ▸ HS1.out).sub0 (by have := HO.out; omega) (by omega)) (by rw [List.length_drop, List.length_take]; omega)).mono ?_
      rintro e w2 ⟨v, rfl, ho, hb2⟩
      have HS2 := Lib.hid (SL.of_own ho)
      have HB3 := Lib.hid (HB.out.trans (Below.mono (show Below w1.heap.size w1 w2 from (Below.refl _ w1).drew.trans hb2) HB.out.size))
      clear ho hb2
      go_wp2
      go_ret2
      exact ⟨v, rfl, HS2.out, HB3.out⟩
    · rw [HM.out]
      refine (clone_any ((rows.take (min (k + m) rows.length)).drop k) _ _ ((show SL w1.drew (.slice A1 rows.length c1') rows from HS1.out).sub (by have := HO.out; omega) (by omega)) (by rw [List.length_drop, List.length_take]; omega)).mono ?_
      rintro e w2 ⟨v, rfl, ho, hb2⟩
      have HS2 := Lib.hid (SL.of_own ho)
      have HB3 := Lib.hid (HB.out.trans (Below.mono (show Below w1.heap.size w1 w2 from (Below.refl _ w1).drew.trans hb2) HB.out.size))
      clear ho hb2
      go_wp2
      go_ret2
      exact ⟨v, rfl, HS2.out, HB3.out⟩
  · have hv : visL p = [] := by unfold visL; rw [if_neg h0]
    rw [hv]
    have hne : (pagerE p == 0) = false := by rw [beq_eq_false_iff_ne]; exact h0
    generalize pagerE p = E at *
    have H0 := Lib.hid h0
    obtain ⟨text, wide, high, top, sought⟩ := p
    dsimp only at *
    clear hv h0
    go_enter Tryz.func11, Tryz.ntmps11
    go_wp2_with fail
    refine hS.out.mono ?_
    rintro e w1 ⟨hb, ⟨_, rfl⟩ | ⟨h0, _⟩⟩
    · have HB := Lib.hid (show Below w.heap.size w w1 from (pager_box w _).trans (hb.mono (by simp)))
      clear hb hS hbx
      go_wp2
      go_ret2
      exact ⟨_, rfl, nil_SL _, HB.out⟩
    · exact absurd h0 H0.out

set_option maxRecDepth 100000 in
set_option maxHeartbeats 1600000 in
theorem rvisible_any (p : PG) (w : World) (hx : MX w) (hs : p.text.size < 4294967281) :
    Calls Tryz.prog 12 #[p.v] w (GaveE w (visL p) (pagerE p)) := by
  have hS := Lib.hid (pagerForm_any p (w.alloc (.cells (pgC p.text p.wide p.high p.top p.sought) 26)) (hx.keep (pager_box w _)) hs)
  have hbx := box_new w (pgC p.text p.wide p.high p.top p.sought) 26
  clear hx hs
  unfold FormT at hS
  by_cases h0 : pagerE p = 0
  · have hv : visL p = (p.rows.take (min (p.top + p.high) p.rows.length).toNat).drop p.top.toNat := by unfold visL; rw [if_pos h0]
    obtain ⟨k, m, hk, hm, hkl, hm1, hm2, hor⟩ := hi_of (pgood h0)
    have hlen : p.rows.length ≤ 4000000000000 := (rows_len' p.text p.wide).1
    have hmin : (min (p.top + p.high) p.rows.length).toNat = min (k + m) p.rows.length := by omega
    rw [hv, h0, hmin]
    simp only [h0, forall_const] at hS
    clear hv h0 hmin
    obtain ⟨text, wide, high, top, sought⟩ := p
    dsimp only at *
    subst hk
    subst hm
    generalize PG.rows ⟨text, wide, m, k, sought⟩ = rows at *
    generalize PG.nums ⟨text, wide, m, k, sought⟩ = nums at *
    rw [Int.toNat_natCast]
    go_enter Tryz.func12, Tryz.ntmps12
    go_wp2_with fail
    refine hS.out.mono ?_
    rintro e w1 ⟨hb, v1, v2, rfl, hs1, _⟩
    obtain ⟨cx, lx⟩ := box_keep hbx.1 hbx.2 hb
    have HB := Lib.hid (show Below w.heap.size w w1 from (pager_box w _).trans (hb.mono (by simp)))
    have HS1 := Lib.hid hs1
    obtain ⟨A1, c1', rfl, hcap, _⟩ := hs1
    have HO := Lib.hid hor
    have hsum : IntKind.i64.wrap ((k : Int) + (m : Int)) = (k : Int) + (m : Int) := IntWalk.i64_in _ (by omega)
    have HB1 := Lib.hid (show (0 : Int) ≤ min ((k : Int) + (m : Int)) (rows.length : Int) ∧ min ((k : Int) + (m : Int)) (rows.length : Int) ≤ (c1' : Int) by omega)
    have HB2 := Lib.hid (show k ≤ (min ((k : Int) + (m : Int)) (rows.length : Int)).toNat by omega)
    have HM := Lib.hid (show (min ((k : Int) + (m : Int)) (rows.length : Int)).toNat = min (k + m) rows.length by omega)
    clear hb hS hbx hor
    go_wp2_with fail
    · rw [HM.out]
      go_ret2
      exact ⟨_, rfl, (show SL w1 (.slice A1 rows.length k) rows from (show c1' = k by assumption) ▸ HS1.out).sub0 (by have := HO.out; omega) (by omega), HB.out⟩
    · rw [HM.out]
      go_ret2
      exact ⟨_, rfl, HS1.out.sub (by have := HO.out; omega) (by omega), HB.out⟩
  · have hv : visL p = [] := by unfold visL; rw [if_neg h0]
    rw [hv]
    have hne : (pagerE p == 0) = false := by rw [beq_eq_false_iff_ne]; exact h0
    generalize pagerE p = E at *
    obtain ⟨text, wide, high, top, sought⟩ := p
    dsimp only at *
    clear hv h0
    go_enter Tryz.func12, Tryz.ntmps12
    go_wp2_with fail
    refine hS.out.mono ?_
    rintro e w1 ⟨hb, v1, v2, rfl, _⟩
    have HB := Lib.hid (show Below w.heap.size w w1 from (pager_box w _).trans (hb.mono (by simp)))
    clear hb hS hbx
    go_wp2
    go_ret2
    exact ⟨_, rfl, nil_SL _, HB.out⟩

end Go.Proofs.YtokmiommhfbkeaaGreatDoor
