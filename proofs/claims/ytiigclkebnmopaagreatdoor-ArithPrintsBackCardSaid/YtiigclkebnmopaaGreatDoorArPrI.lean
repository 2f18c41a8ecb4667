/- Arithmetic expressions: the program's printer: two and three operands. -/
import Derived.Test.YtiigclkebnmopaaGreatDoorArPrG
namespace Go.Proofs.YtiigclkebnmopaaGreatDoor
open Go.RowKit Go.Shelf

set_option maxRecDepth 100000 in
set_option maxHeartbeats 6400000 in
theorem pe_three (w0 : World) (B b : Nat) (h0 : W0 w0 B b) (n : Int) (nm : List UInt8) (y0 y1 y2 : Ex) (t0 t1 t2 : List UInt8) (bd0 bd1 bd2 : Bool) (E0 : PO w0 B b y0 t0 bd0) (E1 : PO w0 B b y1 t1 bd1) (E2 : PO w0 B b y2 t2 bd2) : PE w0 B b (.mk [63] n nm [y0, y1, y2]) (t0 ++ 32 :: 63 :: 32 :: (t1 ++ 32 :: 58 :: 32 :: t2)) (bd0 || bd1 || bd2) := by
  intro v w L bad hx hp hB hlen
  obtain ⟨op, hop⟩ : ∃ op, ([63] : List UInt8) = op := ⟨_, rfl⟩
  rw [hop] at hx
  obtain ⟨A, c, rfl, _, hA⟩ := hx.parts
  have HOp := Lib.hid hop.symm
  have f0 : ((toB op).toList == [110]) = false := by rw [toB_toList, HOp.out]; rfl
  have f1 : ((toB op).toList == [118]) = false := by rw [toB_toList, HOp.out]; rfl
  have f2 : ((toB op).toList == [101]) = false := by rw [toB_toList, HOp.out]; rfl
  have f3 : ((toB op).toList == [63]) = true := by rw [toB_toList, HOp.out]; rfl
  obtain ⟨g, off, rfl, hgB, hg, hL⟩ := hA (by simp)
  obtain ⟨v0, v1, v2, v3, p00, p01, p02, p03, hx0⟩ := ex0 hL
  obtain ⟨n0, A0, k0, z0, nm0, hv, hq⟩ := hx0.form
  simp only [Value.agg.injEq, Array.mk.injEq, List.cons.injEq, and_true] at hv
  clear hq
  obtain ⟨rfl, rfl, rfl, rfl⟩ := hv
  have hL0 := ex1 hL
  obtain ⟨v0, v1, v2, v3, p10, p11, p12, p13, hx1⟩ := ex0 hL0
  obtain ⟨n1, A1, k1, z1, nm1, hv, hq⟩ := hx1.form
  simp only [Value.agg.injEq, Array.mk.injEq, List.cons.injEq, and_true] at hv
  clear hq
  obtain ⟨rfl, rfl, rfl, rfl⟩ := hv
  have hL1 := ex1 hL0
  obtain ⟨v0, v1, v2, v3, p20, p21, p22, p23, hx2⟩ := ex0 hL1
  obtain ⟨n2, A2, k2, z2, nm2, hv, hq⟩ := hx2.form
  simp only [Value.agg.injEq, Array.mk.injEq, List.cons.injEq, and_true] at hv
  clear hq
  obtain ⟨rfl, rfl, rfl, rfl⟩ := hv
  rw [show off + 4 = off + 1 * 4 by omega] at p10 p11 p12 p13
  rw [show off + 4 + 4 = off + 2 * 4 by omega] at p20 p21 p22 p23
  have HX0 := Lib.hid (show ∀ W, PF B b w W → (W.cell? ⟨g, off, none⟩ = some (.string (toB y0.op)) ∧ W.cell? ⟨g, off + 1, none⟩ = some (.int .i64 n0) ∧ W.cell? ⟨g, off + 2, none⟩ = some (.string (toB nm0)) ∧ W.cell? ⟨g, off + 3, none⟩ = some (.slice A0 k0 z0) ∧ g < W.heap.size) ∧ ExV (fun g => g < B) W (.agg #[.string (toB y0.op), .int .i64 n0, .string (toB nm0), .slice A0 k0 z0]) y0 from fun W hf => ⟨⟨(World.cell?_of_block (a := ⟨g, off, none⟩) (hf.block g hg (by have := h0.le; omega) (.inl hgB))).trans p00, (World.cell?_of_block (a := ⟨g, off + 1, none⟩) (hf.block g hg (by have := h0.le; omega) (.inl hgB))).trans p01, (World.cell?_of_block (a := ⟨g, off + 2, none⟩) (hf.block g hg (by have := h0.le; omega) (.inl hgB))).trans p02, (World.cell?_of_block (a := ⟨g, off + 3, none⟩) (hf.block g hg (by have := h0.le; omega) (.inl hgB))).trans p03, Nat.lt_of_lt_of_le hg hf.size⟩, ExV.keep hf.size (fun k hk hl => ⟨hf.block k hl (by have := h0.le; omega) (.inl hk), hk⟩) y0 hx0⟩)
  have HE0 := Lib.hid E0
  have HX1 := Lib.hid (show ∀ W, PF B b w W → (W.cell? ⟨g, off + 1 * 4, none⟩ = some (.string (toB y1.op)) ∧ W.cell? ⟨g, off + 1 * 4 + 1, none⟩ = some (.int .i64 n1) ∧ W.cell? ⟨g, off + 1 * 4 + 2, none⟩ = some (.string (toB nm1)) ∧ W.cell? ⟨g, off + 1 * 4 + 3, none⟩ = some (.slice A1 k1 z1) ∧ g < W.heap.size) ∧ ExV (fun g => g < B) W (.agg #[.string (toB y1.op), .int .i64 n1, .string (toB nm1), .slice A1 k1 z1]) y1 from fun W hf => ⟨⟨(World.cell?_of_block (a := ⟨g, off + 1 * 4, none⟩) (hf.block g hg (by have := h0.le; omega) (.inl hgB))).trans p10, (World.cell?_of_block (a := ⟨g, off + 1 * 4 + 1, none⟩) (hf.block g hg (by have := h0.le; omega) (.inl hgB))).trans p11, (World.cell?_of_block (a := ⟨g, off + 1 * 4 + 2, none⟩) (hf.block g hg (by have := h0.le; omega) (.inl hgB))).trans p12, (World.cell?_of_block (a := ⟨g, off + 1 * 4 + 3, none⟩) (hf.block g hg (by have := h0.le; omega) (.inl hgB))).trans p13, Nat.lt_of_lt_of_le hg hf.size⟩, ExV.keep hf.size (fun k hk hl => ⟨hf.block k hl (by have := h0.le; omega) (.inl hk), hk⟩) y1 hx1⟩)
  have HE1 := Lib.hid E1
  have HX2 := Lib.hid (show ∀ W, PF B b w W → (W.cell? ⟨g, off + 2 * 4, none⟩ = some (.string (toB y2.op)) ∧ W.cell? ⟨g, off + 2 * 4 + 1, none⟩ = some (.int .i64 n2) ∧ W.cell? ⟨g, off + 2 * 4 + 2, none⟩ = some (.string (toB nm2)) ∧ W.cell? ⟨g, off + 2 * 4 + 3, none⟩ = some (.slice A2 k2 z2) ∧ g < W.heap.size) ∧ ExV (fun g => g < B) W (.agg #[.string (toB y2.op), .int .i64 n2, .string (toB nm2), .slice A2 k2 z2]) y2 from fun W hf => ⟨⟨(World.cell?_of_block (a := ⟨g, off + 2 * 4, none⟩) (hf.block g hg (by have := h0.le; omega) (.inl hgB))).trans p20, (World.cell?_of_block (a := ⟨g, off + 2 * 4 + 1, none⟩) (hf.block g hg (by have := h0.le; omega) (.inl hgB))).trans p21, (World.cell?_of_block (a := ⟨g, off + 2 * 4 + 2, none⟩) (hf.block g hg (by have := h0.le; omega) (.inl hgB))).trans p22, (World.cell?_of_block (a := ⟨g, off + 2 * 4 + 3, none⟩) (hf.block g hg (by have := h0.le; omega) (.inl hgB))).trans p23, Nat.lt_of_lt_of_le hg hf.size⟩, ExV.keep hf.size (fun k hk hl => ⟨hf.block k hl (by have := h0.le; omega) (.inl hk), hk⟩) y2 hx2⟩)
  have HE2 := Lib.hid E2
  clear hL hx0 E0 p00 p01 p02 p03 hx1 E1 p10 p11 p12 p13 hx2 E2 p20 p21 p22 p23 hL0 hL1
  have hBs : B ≤ w.heap.size := by have := hB.size; rw [h0.size] at this; exact this
  have HS := Lib.hid (SE.start (op := op) (nm := nm) (n := n) (A := some ⟨g, off, none⟩) (k := [y0, y1, y2].length) (c := c) hp hBs)
  have HBW := Lib.hid (fun W (hf : PF B b w W) => hB.trans (below_PF hf h0.le hBs))
  clear hop hx hp
  go_enter Tryz.func42, Tryz.ntmps42
  go_upto_region 1 with fail
  generalize (w.alloc (.cells #[.pointer (some ⟨b, 0, none⟩)] 80)).alloc (.cells #[.string (toB op), .int .i64 n, .string (toB nm), .slice (some ⟨g, off, none⟩) [y0, y1, y2].length c] 25) = w1 at *
  obtain ⟨c0, c1, c2, c3, c4, l1, l2, l3⟩ := HS.out.look
  go_wp2_with fail
  refine (cnt_any HS.out 3).mono ?_
  rintro e w2 ⟨rfl, hs2⟩
  have HS2 := Lib.hid hs2
  rw [show (([y0, y1, y2].length : Nat) : Int) = 3 from rfl, show ((3 : Int) == 3) = true from rfl] at HS2 ⊢
  rw [Bool.not_true, Bool.or_false] at HS2
  clear hs2 HS c0 c1 c2 c3 c4 l1 l2 l3
  obtain ⟨c0, c1, c2, c3, c4, l1, l2, l3⟩ := HS2.out.look
  go_upto_region 19 with fail
  have q0 := (HX0.out _ HS2.out.pf).1
  obtain ⟨q00, q01, q02, q03, q04⟩ := q0
  go_cut [] (fun wx => SE B b w.heap.size (w.heap.size + 1) op n nm (some ⟨g, off, none⟩) [y0, y1, y2].length c ((L) ++ t0) (bad || bd0) w wx)
  case first =>
    go_region_law (first
      | (go_simp; go_at_call 87; refine (HE0.out _ _ (L) bad (HX0.out _ HS2.out.drew.pf).2 HS2.out.drew.pr (HBW.out _ HS2.out.drew.pf) (by simp at hlen ⊢; omega)).mono ?_; rintro e w4 ⟨rfl, hp4, hf4⟩; have HSn := Lib.hid (HS2.out.drew.step hp4 hf4); clear hp4 hf4))
    all_goals
      go_wp2_with fail
      go_meet
      exact HSn.out
  case rest =>
  have HT0 := Lib.hid hcut
  clear hcut HS2 q00 q01 q02 q03 q04 c0 c1 c2 c3 c4 l1 l2 l3
  obtain ⟨c0, c1, c2, c3, c4, l1, l2, l3⟩ := HT0.out.look
  go_upto_region 20 with fail
  go_wp2_with fail
  rw [show (⟨#[32, 63, 32]⟩ : ByteArray) = toB [32, 63, 32] from rfl]
  refine (ws_any B b ((L) ++ t0) ([32, 63, 32]) _ _ HT0.out.pr (by simp at hlen ⊢; omega) HT0.out.ne.2.2.1).mono ?_
  rintro e wn1 ⟨rfl, hp4, hf4⟩
  have HT1 := Lib.hid (show SE B b w.heap.size (w.heap.size + 1) op n nm (some ⟨g, off, none⟩) [y0, y1, y2].length c (((L) ++ t0) ++ ([32, 63, 32])) (bad || bd0) w wn1 from HT0.out.step hp4 hf4)
  clear hp4 hf4 HT0 c0 c1 c2 c3 c4 l1 l2 l3
  obtain ⟨c0, c1, c2, c3, c4, l1, l2, l3⟩ := HT1.out.look
  go_upto_region 21 with fail
  have q2 := (HX1.out _ HT1.out.pf).1
  obtain ⟨q20, q21, q22, q23, q24⟩ := q2
  go_cut [] (fun wx => SE B b w.heap.size (w.heap.size + 1) op n nm (some ⟨g, off, none⟩) [y0, y1, y2].length c ((((L) ++ t0) ++ ([32, 63, 32])) ++ t1) ((bad || bd0) || bd1) w wx)
  case first =>
    go_region_law (first
      | (go_simp; go_at_call 87; refine (HE1.out _ _ (((L) ++ t0) ++ ([32, 63, 32])) (bad || bd0) (HX1.out _ HT1.out.drew.pf).2 HT1.out.drew.pr (HBW.out _ HT1.out.drew.pf) (by simp at hlen ⊢; omega)).mono ?_; rintro e w4 ⟨rfl, hp4, hf4⟩; have HSn := Lib.hid (HT1.out.drew.step hp4 hf4); clear hp4 hf4))
    all_goals
      go_wp2_with fail
      go_meet
      exact HSn.out
  case rest =>
  have HT2 := Lib.hid hcut
  clear hcut HT1 q20 q21 q22 q23 q24 c0 c1 c2 c3 c4 l1 l2 l3
  obtain ⟨c0, c1, c2, c3, c4, l1, l2, l3⟩ := HT2.out.look
  go_upto_region 22 with fail
  go_wp2_with fail
  rw [show (⟨#[32, 58, 32]⟩ : ByteArray) = toB [32, 58, 32] from rfl]
  refine (ws_any B b ((((L) ++ t0) ++ ([32, 63, 32])) ++ t1) ([32, 58, 32]) _ _ HT2.out.pr (by simp at hlen ⊢; omega) HT2.out.ne.2.2.1).mono ?_
  rintro e wn3 ⟨rfl, hp4, hf4⟩
  have HT3 := Lib.hid (show SE B b w.heap.size (w.heap.size + 1) op n nm (some ⟨g, off, none⟩) [y0, y1, y2].length c (((((L) ++ t0) ++ ([32, 63, 32])) ++ t1) ++ ([32, 58, 32])) ((bad || bd0) || bd1) w wn3 from HT2.out.step hp4 hf4)
  clear hp4 hf4 HT2 c0 c1 c2 c3 c4 l1 l2 l3
  obtain ⟨c0, c1, c2, c3, c4, l1, l2, l3⟩ := HT3.out.look
  go_upto_region 23 with fail
  have q4 := (HX2.out _ HT3.out.pf).1
  obtain ⟨q40, q41, q42, q43, q44⟩ := q4
  go_region_law (first
    | (go_simp; go_at_call 87; refine (HE2.out _ _ (((((L) ++ t0) ++ ([32, 63, 32])) ++ t1) ++ ([32, 58, 32])) ((bad || bd0) || bd1) (HX2.out _ HT3.out.drew.pf).2 HT3.out.drew.pr (HBW.out _ HT3.out.drew.pf) (by simp at hlen ⊢; omega)).mono ?_; rintro e w4 ⟨rfl, hp4, hf4⟩; have HSn := Lib.hid (HT3.out.drew.step hp4 hf4); clear hp4 hf4))
  all_goals
    go_wp2_with fail
    exact bodyPost_ret (results_none rfl _ _ _) rfl ⟨rfl, (by simpa [Bool.or_assoc] using  HSn.out.pr), HSn.out.pf⟩


end Go.Proofs.YtiigclkebnmopaaGreatDoor
