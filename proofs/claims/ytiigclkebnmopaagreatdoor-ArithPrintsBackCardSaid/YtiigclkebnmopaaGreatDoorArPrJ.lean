/- Arithmetic expressions: the program's printer: two operands. -/
import Derived.Test.YtiigclkebnmopaaGreatDoorArPrG
namespace Go.Proofs.YtiigclkebnmopaaGreatDoor
open Go.RowKit Go.Shelf

def sgB : ByteArray := ⟨#[32, 60, 60, 61, 32, 62, 62, 61, 32, 60, 60, 32, 62, 62, 32, 60, 61, 32, 62, 61, 32, 61, 61, 32, 33, 61, 32, 38, 38, 32, 124, 124, 32, 43, 43, 32, 45, 45, 32, 43, 61, 32, 45, 61, 32, 42, 61, 32, 47, 61, 32, 37, 61, 32, 38, 61, 32, 94, 61, 32, 124, 61, 32, 43, 32, 45, 32, 42, 32, 47, 32, 37, 32, 60, 32, 62, 32, 38, 32, 94, 32, 124, 32, 33, 32, 126, 32, 63, 32, 58, 32, 61, 32, 44, 32, 40, 32, 41, 32, 91, 32, 93, 32]⟩
theorem two_in : ∀ op ∈ binO ++ [[44]] ++ assigns, Lib.contains sgB.data.toList (32 :: (op ++ [32])) = true := by decide +kernel
theorem two_sp : ∀ op ∈ binO ++ [[44]] ++ assigns, decide (0 ≤ Lib.indexByte op 32) = false := by decide
theorem two_em : ∀ op ∈ binO ++ [[44]] ++ assigns, (op == []) = false := by decide
set_option maxRecDepth 100000 in
set_option maxHeartbeats 6400000 in
theorem pe_two (w0 : World) (B b : Nat) (h0 : W0 w0 B b) (op : List UInt8) (hop : op ∈ binO ++ [[44]] ++ assigns) (n : Int) (nm : List UInt8) (y0 y1 : Ex) (t0 t1 : List UInt8) (bd0 bd1 : Bool) (E0 : PO w0 B b y0 t0 bd0) (E1 : PO w0 B b y1 t1 bd1) : PE w0 B b (.mk op n nm [y0, y1]) (t0 ++ 32 :: (op ++ 32 :: t1)) (bd0 || bd1) := by
  intro v w L bad hx hp hB hlen
  obtain ⟨A, c, rfl, _, hA⟩ := hx.parts
  have HOp := Lib.hid (two_ne op hop)
  have hlo := two_len op hop
  have hsp := two_sp op hop
  have hin : Lib.contains sgB.data.toList (toB (32 :: (op ++ [32]))).data.toList = true := two_in op hop
  have f0 : ((toB op).toList == [110]) = false := by rw [toB_toList]; exact HOp.out [110] (by simp)
  have f1 : ((toB op).toList == [118]) = false := by rw [toB_toList]; exact HOp.out [118] (by simp)
  have f2 : ((toB op).toList == [101]) = false := by rw [toB_toList]; exact HOp.out [101] (by simp)
  have f3 : ((toB op).toList == [117, 45]) = false := by rw [toB_toList]; exact HOp.out [117, 45] (by simp)
  have f4 : ((toB op).toList == [117, 43]) = false := by rw [toB_toList]; exact HOp.out [117, 43] (by simp)
  have f5 : ((toB op).toList == [33]) = false := by rw [toB_toList]; exact HOp.out [33] (by simp)
  have f6 : ((toB op).toList == [126]) = false := by rw [toB_toList]; exact HOp.out [126] (by simp)
  have f7 : ((toB op).toList == [43, 43, 118]) = false := by rw [toB_toList]; exact HOp.out [43, 43, 118] (by simp)
  have f8 : ((toB op).toList == [45, 45, 118]) = false := by rw [toB_toList]; exact HOp.out [45, 45, 118] (by simp)
  have f9 : ((toB op).toList == [118, 43, 43]) = false := by rw [toB_toList]; exact HOp.out [118, 43, 43] (by simp)
  have f10 : ((toB op).toList == [118, 45, 45]) = false := by rw [toB_toList]; exact HOp.out [118, 45, 45] (by simp)
  have f11 : ((toB op).toList == [63]) = false := by rw [toB_toList]; exact HOp.out [63] (by simp)
  have fe : ((toB op).toList == []) = false := by rw [toB_toList]; exact two_em op hop
  have fe2 : (toB op).toList.isEmpty = false := by rw [toB_toList]; cases op with | nil => exact absurd (two_em [] hop) (by decide) | cons _ _ => rfl
  obtain ⟨g, off, rfl, hgB, hg, hL⟩ := hA (by simp)
  obtain ⟨v0, v1, v2, v3, p00, p01, p02, p03, hx0⟩ := ex0 hL
  obtain ⟨n0, A0, k0, z0, nm0, hv, hq⟩ := hx0.form
  simp only [Value.agg.injEq, Array.mk.injEq, List.cons.injEq, and_true] at hv
  clear hq
  obtain ⟨rfl, rfl, rfl, rfl⟩ := hv
  have hL0 := ex1 hL
  obtain ⟨v0, v1, v2, v3, p10, p11, p12, p13, hx1⟩ := ex0 hL0
  obtain ⟨n1, A1, k1, z1, nm1, hv, hq⟩ := hx1.form
  simp only [Value.agg.injEq, Array.mk.injEq, List.cons.injEq, and_true] at hv
  clear hq
  obtain ⟨rfl, rfl, rfl, rfl⟩ := hv
  rw [show off + 4 = off + 1 * 4 by omega] at p10 p11 p12 p13
  have HX0 := Lib.hid (show ∀ W, PF B b w W → (W.cell? ⟨g, off, none⟩ = some (.string (toB y0.op)) ∧ W.cell? ⟨g, off + 1, none⟩ = some (.int .i64 n0) ∧ W.cell? ⟨g, off + 2, none⟩ = some (.string (toB nm0)) ∧ W.cell? ⟨g, off + 3, none⟩ = some (.slice A0 k0 z0) ∧ g < W.heap.size) ∧ ExV (fun g => g < B) W (.agg #[.string (toB y0.op), .int .i64 n0, .string (toB nm0), .slice A0 k0 z0]) y0 from fun W hf => ⟨⟨(World.cell?_of_block (a := ⟨g, off, none⟩) (hf.block g hg (by have := h0.le; omega) (.inl hgB))).trans p00, (World.cell?_of_block (a := ⟨g, off + 1, none⟩) (hf.block g hg (by have := h0.le; omega) (.inl hgB))).trans p01, (World.cell?_of_block (a := ⟨g, off + 2, none⟩) (hf.block g hg (by have := h0.le; omega) (.inl hgB))).trans p02, (World.cell?_of_block (a := ⟨g, off + 3, none⟩) (hf.block g hg (by have := h0.le; omega) (.inl hgB))).trans p03, Nat.lt_of_lt_of_le hg hf.size⟩, ExV.keep hf.size (fun k hk hl => ⟨hf.block k hl (by have := h0.le; omega) (.inl hk), hk⟩) y0 hx0⟩)
  have HE0 := Lib.hid E0
  have HX1 := Lib.hid (show ∀ W, PF B b w W → (W.cell? ⟨g, off + 1 * 4, none⟩ = some (.string (toB y1.op)) ∧ W.cell? ⟨g, off + 1 * 4 + 1, none⟩ = some (.int .i64 n1) ∧ W.cell? ⟨g, off + 1 * 4 + 2, none⟩ = some (.string (toB nm1)) ∧ W.cell? ⟨g, off + 1 * 4 + 3, none⟩ = some (.slice A1 k1 z1) ∧ g < W.heap.size) ∧ ExV (fun g => g < B) W (.agg #[.string (toB y1.op), .int .i64 n1, .string (toB nm1), .slice A1 k1 z1]) y1 from fun W hf => ⟨⟨(World.cell?_of_block (a := ⟨g, off + 1 * 4, none⟩) (hf.block g hg (by have := h0.le; omega) (.inl hgB))).trans p10, (World.cell?_of_block (a := ⟨g, off + 1 * 4 + 1, none⟩) (hf.block g hg (by have := h0.le; omega) (.inl hgB))).trans p11, (World.cell?_of_block (a := ⟨g, off + 1 * 4 + 2, none⟩) (hf.block g hg (by have := h0.le; omega) (.inl hgB))).trans p12, (World.cell?_of_block (a := ⟨g, off + 1 * 4 + 3, none⟩) (hf.block g hg (by have := h0.le; omega) (.inl hgB))).trans p13, Nat.lt_of_lt_of_le hg hf.size⟩, ExV.keep hf.size (fun k hk hl => ⟨hf.block k hl (by have := h0.le; omega) (.inl hk), hk⟩) y1 hx1⟩)
  have HE1 := Lib.hid E1
  clear hL hx0 E0 p00 p01 p02 p03 hx1 E1 p10 p11 p12 p13 hL0
  have hBs : B ≤ w.heap.size := by have := hB.size; rw [h0.size] at this; exact this
  have HS := Lib.hid (SE.start (op := op) (nm := nm) (n := n) (A := some ⟨g, off, none⟩) (k := [y0, y1].length) (c := c) hp hBs)
  have HBW := Lib.hid (fun W (hf : PF B b w W) => hB.trans (below_PF hf h0.le hBs))
  have hszO := toB_size op
  have hk1 : ¬ 9223372036854775807 < 1 + op.length := by omega
  have hk2 : ¬ 9223372036854775807 < 1 + op.length + 1 := by omega
  have HC := Lib.hid (show (⟨#[32]⟩ : ByteArray) ++ toB op ++ ⟨#[32]⟩ = toB (32 :: (op ++ [32])) by show toB [32] ++ toB op ++ toB [32] = _; rw [toB_app, toB_app]; rfl)
  have HPX := Lib.hid (fun W (hf : PF B b w W) => (h0.px' (hB.trans (below_PF hf h0.le hBs))).2)
  have hsd : (toB op).data.toList = op := rfl
  clear hop hx hp
  go_enter Tryz.func42, Tryz.ntmps42
  go_upto_region 1 with fail
  generalize (w.alloc (.cells #[.pointer (some ⟨b, 0, none⟩)] 80)).alloc (.cells #[.string (toB op), .int .i64 n, .string (toB nm), .slice (some ⟨g, off, none⟩) [y0, y1].length c] 25) = w1 at *
  obtain ⟨c0, c1, c2, c3, c4, l1, l2, l3⟩ := HS.out.look
  go_upto_region 26 with fail
  go_cut [130] (fun s130 wx => s130 = .bool true ∧ SE B b w.heap.size (w.heap.size + 1) op n nm (some ⟨g, off, none⟩) [y0, y1].length c L bad w wx)
  case first =>
    go_region_with (first
      | (have hzz := HQ3.out; clear hzz; go_simp; go_at_call 84; refine (need_any B b L bad true _ HS2.out.pr).mono ?_; rintro e w5 ⟨rfl, hp5, hf5⟩; have HS5 := Lib.hid (HS2.out.step hp5 hf5); clear hp5 hf5)
      | (have hzz := HQ2.out; clear hzz; go_simp; go_at_call 72; rw [HC.out]; obtain ⟨mx, hmx⟩ := HPX.out _ HS2.out.pf; refine (Tryz.strings_Contains sgB (toB (32 :: (op ++ [32]))) mx _ (by decide) hmx).mono ?_; rintro e w4 ⟨rfl, rfl⟩; rw [hin]; have HQ3 := Lib.hid True.intro)
      | (have hzz := HS2.out; clear hzz; go_simp; go_at_call 72; refine (Tryz.strings_Contains_one (toB op) 32 _).mono ?_; rintro e w3 ⟨rfl, rfl⟩; rw [hsd, hsp]; have HQ2 := Lib.hid True.intro)
      | (go_simp; go_at_call 83; refine (cnt_any HS.out.drew 2).mono ?_; rintro e w2 ⟨rfl, hs2⟩; have HS2 := Lib.hid hs2; rw [show (([y0, y1].length : Nat) : Int) = 2 from rfl, show ((2 : Int) == 2) = true from rfl] at HS2 ⊢; rw [Bool.not_true, Bool.or_false] at HS2; clear hs2; obtain ⟨d0, d1, d2, d3, d4, m1, m2, m3⟩ := HS2.out.look))
    all_goals
      go_wp2_with fail
      go_meet
      exact ⟨rfl, by simpa using HS5.out⟩
  case rest =>
  obtain ⟨rfl, hs2⟩ := hcut
  have HS2 := Lib.hid hs2
  clear hs2 HS c0 c1 c2 c3 c4 l1 l2 l3
  obtain ⟨c0, c1, c2, c3, c4, l1, l2, l3⟩ := HS2.out.look
  go_upto_region 27 with fail
  have q0 := (HX0.out _ HS2.out.pf).1
  obtain ⟨q00, q01, q02, q03, q04⟩ := q0
  go_cut [] (fun wx => SE B b w.heap.size (w.heap.size + 1) op n nm (some ⟨g, off, none⟩) [y0, y1].length c ((L) ++ t0) (bad || bd0) w wx)
  case first =>
    go_region_law (first
      | (go_simp; go_at_call 87; refine (HE0.out _ _ (L) bad (HX0.out _ HS2.out.drew.pf).2 HS2.out.drew.pr (HBW.out _ HS2.out.drew.pf) (by simp at hlen ⊢; omega)).mono ?_; rintro e w4 ⟨rfl, hp4, hf4⟩; have HSn := Lib.hid (HS2.out.drew.step hp4 hf4); clear hp4 hf4))
    all_goals
      go_wp2_with fail
      go_meet
      exact HSn.out
  case rest =>
  have HT0 := Lib.hid hcut
  clear hcut HS2 q00 q01 q02 q03 q04 c0 c1 c2 c3 c4 l1 l2 l3
  obtain ⟨c0, c1, c2, c3, c4, l1, l2, l3⟩ := HT0.out.look
  go_upto_region 28 with fail
  go_cut [] (fun wx => SE B b w.heap.size (w.heap.size + 1) op n nm (some ⟨g, off, none⟩) [y0, y1].length c (((L) ++ t0) ++ (32 :: (op ++ [32]))) (bad || bd0) w wx)
  case first =>
    go_region_law (first
      | (go_simp; go_at_call 85; rw [HC.out]; refine (ws_any B b ((L) ++ t0) (32 :: (op ++ [32])) _ _ HT0.out.drew.pr (by simp at hlen ⊢; omega) HT0.out.drew.ne.2.2.1).mono ?_; rintro e w4 ⟨rfl, hp4, hf4⟩; have HSn := Lib.hid (HT0.out.drew.step hp4 hf4); clear hp4 hf4))
    all_goals
      go_wp2_with fail
      go_meet
      exact HSn.out
  case rest =>
  have HT1 := Lib.hid hcut
  clear hcut HT0 c0 c1 c2 c3 c4 l1 l2 l3
  obtain ⟨c0, c1, c2, c3, c4, l1, l2, l3⟩ := HT1.out.look
  go_upto_region 29 with fail
  have q2 := (HX1.out _ HT1.out.pf).1
  obtain ⟨q20, q21, q22, q23, q24⟩ := q2
  go_region_law (first
    | (go_simp; go_at_call 87; refine (HE1.out _ _ (((L) ++ t0) ++ (32 :: (op ++ [32]))) (bad || bd0) (HX1.out _ HT1.out.drew.pf).2 HT1.out.drew.pr (HBW.out _ HT1.out.drew.pf) (by simp at hlen ⊢; omega)).mono ?_; rintro e w4 ⟨rfl, hp4, hf4⟩; have HSn := Lib.hid (HT1.out.drew.step hp4 hf4); clear hp4 hf4))
  all_goals
    go_wp2_with fail
    exact bodyPost_ret (results_none rfl _ _ _) rfl ⟨rfl, (by simpa [Bool.or_assoc] using  HSn.out.pr), HSn.out.pf⟩


end Go.Proofs.YtiigclkebnmopaaGreatDoor
