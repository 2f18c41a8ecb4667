/- Arithmetic expressions: the program's printer: a sign and one operand. -/
import Derived.Test.YtiigclkebnmopaaGreatDoorArPrG
namespace Go.Proofs.YtiigclkebnmopaaGreatDoor
open Go.RowKit Go.Shelf

set_option maxRecDepth 100000 in
set_option maxHeartbeats 6400000 in
theorem pe_u0 (w0 : World) (B b : Nat) (h0 : W0 w0 B b) (n : Int) (nm : List UInt8) (y0 : Ex) (t0 : List UInt8) (bd0 : Bool) (E0 : PO w0 B b y0 t0 bd0) : PE w0 B b (.mk [117, 45] n nm [y0]) ([45] ++ (t0 ++ [])) bd0 := by
  intro v w L bad hx hp hB hlen
  obtain ⟨op, hop⟩ : ∃ op, ([117, 45] : List UInt8) = op := ⟨_, rfl⟩
  rw [hop] at hx
  obtain ⟨A, c, rfl, _, hA⟩ := hx.parts
  have HOp := Lib.hid hop.symm
  have f0 : ((toB op).toList == [110]) = false := by rw [toB_toList, HOp.out]; rfl
  have f1 : ((toB op).toList == [118]) = false := by rw [toB_toList, HOp.out]; rfl
  have f2 : ((toB op).toList == [101]) = false := by rw [toB_toList, HOp.out]; rfl
  have f3 : ((toB op).toList == [63]) = false := by rw [toB_toList, HOp.out]; rfl
  have f4 : ((toB op).toList == [117, 45]) = true := by rw [toB_toList, HOp.out]; rfl
  obtain ⟨g, off, rfl, hgB, hg, hL⟩ := hA (by simp)
  obtain ⟨v0, v1, v2, v3, p00, p01, p02, p03, hx0⟩ := ex0 hL
  obtain ⟨n0, A0, k0, z0, nm0, hv, hq⟩ := hx0.form
  simp only [Value.agg.injEq, Array.mk.injEq, List.cons.injEq, and_true] at hv
  clear hq
  obtain ⟨rfl, rfl, rfl, rfl⟩ := hv
  have HX0 := Lib.hid (show ∀ W, PF B b w W → (W.cell? ⟨g, off, none⟩ = some (.string (toB y0.op)) ∧ W.cell? ⟨g, off + 1, none⟩ = some (.int .i64 n0) ∧ W.cell? ⟨g, off + 2, none⟩ = some (.string (toB nm0)) ∧ W.cell? ⟨g, off + 3, none⟩ = some (.slice A0 k0 z0) ∧ g < W.heap.size) ∧ ExV (fun g => g < B) W (.agg #[.string (toB y0.op), .int .i64 n0, .string (toB nm0), .slice A0 k0 z0]) y0 from fun W hf => ⟨⟨(World.cell?_of_block (a := ⟨g, off, none⟩) (hf.block g hg (by have := h0.le; omega) (.inl hgB))).trans p00, (World.cell?_of_block (a := ⟨g, off + 1, none⟩) (hf.block g hg (by have := h0.le; omega) (.inl hgB))).trans p01, (World.cell?_of_block (a := ⟨g, off + 2, none⟩) (hf.block g hg (by have := h0.le; omega) (.inl hgB))).trans p02, (World.cell?_of_block (a := ⟨g, off + 3, none⟩) (hf.block g hg (by have := h0.le; omega) (.inl hgB))).trans p03, Nat.lt_of_lt_of_le hg hf.size⟩, ExV.keep hf.size (fun k hk hl => ⟨hf.block k hl (by have := h0.le; omega) (.inl hk), hk⟩) y0 hx0⟩)
  have HE0 := Lib.hid E0
  clear hL hx0 E0 p00 p01 p02 p03
  have hBs : B ≤ w.heap.size := by have := hB.size; rw [h0.size] at this; exact this
  have HS := Lib.hid (SE.start (op := op) (nm := nm) (n := n) (A := some ⟨g, off, none⟩) (k := [y0].length) (c := c) hp hBs)
  have HBW := Lib.hid (fun W (hf : PF B b w W) => hB.trans (below_PF hf h0.le hBs))
  have hszO : (toB op).size = 2 := by rw [toB_size, HOp.out]; rfl
  have HCa := Lib.hid (show (toB op).extract 1 2 = toB [45] by rw [HOp.out]; rfl)
  have HCb := Lib.hid (show (⟨#[]⟩ : ByteArray) = toB [] by rfl)
  clear hop hx hp
  go_enter Tryz.func42, Tryz.ntmps42
  go_upto_region 1 with fail
  generalize (w.alloc (.cells #[.pointer (some ⟨b, 0, none⟩)] 80)).alloc (.cells #[.string (toB op), .int .i64 n, .string (toB nm), .slice (some ⟨g, off, none⟩) [y0].length c] 25) = w1 at *
  obtain ⟨c0, c1, c2, c3, c4, l1, l2, l3⟩ := HS.out.look
  go_wp2_with fail
  refine (cnt_any HS.out 1).mono ?_
  rintro e w2 ⟨rfl, hs2⟩
  have HS2 := Lib.hid hs2
  rw [show (([y0].length : Nat) : Int) = 1 from rfl, show ((1 : Int) == 1) = true from rfl] at HS2 ⊢
  rw [Bool.not_true, Bool.or_false] at HS2
  clear hs2 HS c0 c1 c2 c3 c4 l1 l2 l3
  obtain ⟨c0, c1, c2, c3, c4, l1, l2, l3⟩ := HS2.out.look
  go_upto_region 43 with fail
  go_wp2_with fail
  rw [HCa.out]
  refine (ws_any B b (L) ([45]) _ _ HS2.out.pr (by simp at hlen ⊢; omega) HS2.out.ne.2.2.1).mono ?_
  rintro e wn0 ⟨rfl, hp4, hf4⟩
  have HT0 := Lib.hid (show SE B b w.heap.size (w.heap.size + 1) op n nm (some ⟨g, off, none⟩) [y0].length c ((L) ++ ([45])) bad w wn0 from HS2.out.step hp4 hf4)
  clear hp4 hf4 HS2 c0 c1 c2 c3 c4 l1 l2 l3
  obtain ⟨c0, c1, c2, c3, c4, l1, l2, l3⟩ := HT0.out.look
  go_upto_region 44 with fail
  have q1 := (HX0.out _ HT0.out.pf).1
  obtain ⟨q10, q11, q12, q13, q14⟩ := q1
  go_cut [] (fun wx => SE B b w.heap.size (w.heap.size + 1) op n nm (some ⟨g, off, none⟩) [y0].length c (((L) ++ ([45])) ++ t0) (bad || bd0) w wx)
  case first =>
    go_region_law (first
      | (go_simp; go_at_call 87; refine (HE0.out _ _ ((L) ++ ([45])) bad (HX0.out _ HT0.out.drew.pf).2 HT0.out.drew.pr (HBW.out _ HT0.out.drew.pf) (by simp at hlen ⊢; omega)).mono ?_; rintro e w4 ⟨rfl, hp4, hf4⟩; have HSn := Lib.hid (HT0.out.drew.step hp4 hf4); clear hp4 hf4))
    all_goals
      go_wp2_with fail
      go_meet
      exact HSn.out
  case rest =>
  have HT1 := Lib.hid hcut
  clear hcut HT0 q10 q11 q12 q13 q14 c0 c1 c2 c3 c4 l1 l2 l3
  obtain ⟨c0, c1, c2, c3, c4, l1, l2, l3⟩ := HT1.out.look
  go_upto_region 45 with fail
  go_wp2_with fail
  rw [HCb.out]
  refine (ws_any B b (((L) ++ ([45])) ++ t0) ([]) _ _ HT1.out.pr (by simp at hlen ⊢; omega) HT1.out.ne.2.2.1).mono ?_
  rintro e wn2 ⟨rfl, hp4, hf4⟩
  have HT2 := Lib.hid (show SE B b w.heap.size (w.heap.size + 1) op n nm (some ⟨g, off, none⟩) [y0].length c ((((L) ++ ([45])) ++ t0) ++ ([])) (bad || bd0) w wn2 from HT1.out.step hp4 hf4)
  clear hp4 hf4 HT1 c0 c1 c2 c3 c4 l1 l2 l3
  go_wp2_with fail
  go_end0
  exact ⟨rfl, (by simpa using  HT2.out.pr), HT2.out.pf⟩

set_option maxRecDepth 100000 in
set_option maxHeartbeats 6400000 in
theorem pe_u1 (w0 : World) (B b : Nat) (h0 : W0 w0 B b) (n : Int) (nm : List UInt8) (y0 : Ex) (t0 : List UInt8) (bd0 : Bool) (E0 : PO w0 B b y0 t0 bd0) : PE w0 B b (.mk [117, 43] n nm [y0]) ([43] ++ (t0 ++ [])) bd0 := by
  intro v w L bad hx hp hB hlen
  obtain ⟨op, hop⟩ : ∃ op, ([117, 43] : List UInt8) = op := ⟨_, rfl⟩
  rw [hop] at hx
  obtain ⟨A, c, rfl, _, hA⟩ := hx.parts
  have HOp := Lib.hid hop.symm
  have f0 : ((toB op).toList == [110]) = false := by rw [toB_toList, HOp.out]; rfl
  have f1 : ((toB op).toList == [118]) = false := by rw [toB_toList, HOp.out]; rfl
  have f2 : ((toB op).toList == [101]) = false := by rw [toB_toList, HOp.out]; rfl
  have f3 : ((toB op).toList == [63]) = false := by rw [toB_toList, HOp.out]; rfl
  have f4 : ((toB op).toList == [117, 45]) = false := by rw [toB_toList, HOp.out]; rfl
  have f5 : ((toB op).toList == [117, 43]) = true := by rw [toB_toList, HOp.out]; rfl
  obtain ⟨g, off, rfl, hgB, hg, hL⟩ := hA (by simp)
  obtain ⟨v0, v1, v2, v3, p00, p01, p02, p03, hx0⟩ := ex0 hL
  obtain ⟨n0, A0, k0, z0, nm0, hv, hq⟩ := hx0.form
  simp only [Value.agg.injEq, Array.mk.injEq, List.cons.injEq, and_true] at hv
  clear hq
  obtain ⟨rfl, rfl, rfl, rfl⟩ := hv
  have HX0 := Lib.hid (show ∀ W, PF B b w W → (W.cell? ⟨g, off, none⟩ = some (.string (toB y0.op)) ∧ W.cell? ⟨g, off + 1, none⟩ = some (.int .i64 n0) ∧ W.cell? ⟨g, off + 2, none⟩ = some (.string (toB nm0)) ∧ W.cell? ⟨g, off + 3, none⟩ = some (.slice A0 k0 z0) ∧ g < W.heap.size) ∧ ExV (fun g => g < B) W (.agg #[.string (toB y0.op), .int .i64 n0, .string (toB nm0), .slice A0 k0 z0]) y0 from fun W hf => ⟨⟨(World.cell?_of_block (a := ⟨g, off, none⟩) (hf.block g hg (by have := h0.le; omega) (.inl hgB))).trans p00, (World.cell?_of_block (a := ⟨g, off + 1, none⟩) (hf.block g hg (by have := h0.le; omega) (.inl hgB))).trans p01, (World.cell?_of_block (a := ⟨g, off + 2, none⟩) (hf.block g hg (by have := h0.le; omega) (.inl hgB))).trans p02, (World.cell?_of_block (a := ⟨g, off + 3, none⟩) (hf.block g hg (by have := h0.le; omega) (.inl hgB))).trans p03, Nat.lt_of_lt_of_le hg hf.size⟩, ExV.keep hf.size (fun k hk hl => ⟨hf.block k hl (by have := h0.le; omega) (.inl hk), hk⟩) y0 hx0⟩)
  have HE0 := Lib.hid E0
  clear hL hx0 E0 p00 p01 p02 p03
  have hBs : B ≤ w.heap.size := by have := hB.size; rw [h0.size] at this; exact this
  have HS := Lib.hid (SE.start (op := op) (nm := nm) (n := n) (A := some ⟨g, off, none⟩) (k := [y0].length) (c := c) hp hBs)
  have HBW := Lib.hid (fun W (hf : PF B b w W) => hB.trans (below_PF hf h0.le hBs))
  have hszO : (toB op).size = 2 := by rw [toB_size, HOp.out]; rfl
  have HCa := Lib.hid (show (toB op).extract 1 2 = toB [43] by rw [HOp.out]; rfl)
  have HCb := Lib.hid (show (⟨#[]⟩ : ByteArray) = toB [] by rfl)
  clear hop hx hp
  go_enter Tryz.func42, Tryz.ntmps42
  go_upto_region 1 with fail
  generalize (w.alloc (.cells #[.pointer (some ⟨b, 0, none⟩)] 80)).alloc (.cells #[.string (toB op), .int .i64 n, .string (toB nm), .slice (some ⟨g, off, none⟩) [y0].length c] 25) = w1 at *
  obtain ⟨c0, c1, c2, c3, c4, l1, l2, l3⟩ := HS.out.look
  go_wp2_with fail
  refine (cnt_any HS.out 1).mono ?_
  rintro e w2 ⟨rfl, hs2⟩
  have HS2 := Lib.hid hs2
  rw [show (([y0].length : Nat) : Int) = 1 from rfl, show ((1 : Int) == 1) = true from rfl] at HS2 ⊢
  rw [Bool.not_true, Bool.or_false] at HS2
  clear hs2 HS c0 c1 c2 c3 c4 l1 l2 l3
  obtain ⟨c0, c1, c2, c3, c4, l1, l2, l3⟩ := HS2.out.look
  go_upto_region 43 with fail
  go_wp2_with fail
  rw [HCa.out]
  refine (ws_any B b (L) ([43]) _ _ HS2.out.pr (by simp at hlen ⊢; omega) HS2.out.ne.2.2.1).mono ?_
  rintro e wn0 ⟨rfl, hp4, hf4⟩
  have HT0 := Lib.hid (show SE B b w.heap.size (w.heap.size + 1) op n nm (some ⟨g, off, none⟩) [y0].length c ((L) ++ ([43])) bad w wn0 from HS2.out.step hp4 hf4)
  clear hp4 hf4 HS2 c0 c1 c2 c3 c4 l1 l2 l3
  obtain ⟨c0, c1, c2, c3, c4, l1, l2, l3⟩ := HT0.out.look
  go_upto_region 44 with fail
  have q1 := (HX0.out _ HT0.out.pf).1
  obtain ⟨q10, q11, q12, q13, q14⟩ := q1
  go_cut [] (fun wx => SE B b w.heap.size (w.heap.size + 1) op n nm (some ⟨g, off, none⟩) [y0].length c (((L) ++ ([43])) ++ t0) (bad || bd0) w wx)
  case first =>
    go_region_law (first
      | (go_simp; go_at_call 87; refine (HE0.out _ _ ((L) ++ ([43])) bad (HX0.out _ HT0.out.drew.pf).2 HT0.out.drew.pr (HBW.out _ HT0.out.drew.pf) (by simp at hlen ⊢; omega)).mono ?_; rintro e w4 ⟨rfl, hp4, hf4⟩; have HSn := Lib.hid (HT0.out.drew.step hp4 hf4); clear hp4 hf4))
    all_goals
      go_wp2_with fail
      go_meet
      exact HSn.out
  case rest =>
  have HT1 := Lib.hid hcut
  clear hcut HT0 q10 q11 q12 q13 q14 c0 c1 c2 c3 c4 l1 l2 l3
  obtain ⟨c0, c1, c2, c3, c4, l1, l2, l3⟩ := HT1.out.look
  go_upto_region 45 with fail
  go_wp2_with fail
  rw [HCb.out]
  refine (ws_any B b (((L) ++ ([43])) ++ t0) ([]) _ _ HT1.out.pr (by simp at hlen ⊢; omega) HT1.out.ne.2.2.1).mono ?_
  rintro e wn2 ⟨rfl, hp4, hf4⟩
  have HT2 := Lib.hid (show SE B b w.heap.size (w.heap.size + 1) op n nm (some ⟨g, off, none⟩) [y0].length c ((((L) ++ ([43])) ++ t0) ++ ([])) (bad || bd0) w wn2 from HT1.out.step hp4 hf4)
  clear hp4 hf4 HT1 c0 c1 c2 c3 c4 l1 l2 l3
  go_wp2_with fail
  go_end0
  exact ⟨rfl, (by simpa using  HT2.out.pr), HT2.out.pf⟩

set_option maxRecDepth 100000 in
set_option maxHeartbeats 6400000 in
theorem pe_u2 (w0 : World) (B b : Nat) (h0 : W0 w0 B b) (n : Int) (nm : List UInt8) (y0 : Ex) (t0 : List UInt8) (bd0 : Bool) (E0 : PO w0 B b y0 t0 bd0) : PE w0 B b (.mk [33] n nm [y0]) ([33] ++ (t0 ++ [])) bd0 := by
  intro v w L bad hx hp hB hlen
  obtain ⟨op, hop⟩ : ∃ op, ([33] : List UInt8) = op := ⟨_, rfl⟩
  rw [hop] at hx
  obtain ⟨A, c, rfl, _, hA⟩ := hx.parts
  have HOp := Lib.hid hop.symm
  have f0 : ((toB op).toList == [110]) = false := by rw [toB_toList, HOp.out]; rfl
  have f1 : ((toB op).toList == [118]) = false := by rw [toB_toList, HOp.out]; rfl
  have f2 : ((toB op).toList == [101]) = false := by rw [toB_toList, HOp.out]; rfl
  have f3 : ((toB op).toList == [63]) = false := by rw [toB_toList, HOp.out]; rfl
  have f4 : ((toB op).toList == [117, 45]) = false := by rw [toB_toList, HOp.out]; rfl
  have f5 : ((toB op).toList == [117, 43]) = false := by rw [toB_toList, HOp.out]; rfl
  have f6 : ((toB op).toList == [33]) = true := by rw [toB_toList, HOp.out]; rfl
  obtain ⟨g, off, rfl, hgB, hg, hL⟩ := hA (by simp)
  obtain ⟨v0, v1, v2, v3, p00, p01, p02, p03, hx0⟩ := ex0 hL
  obtain ⟨n0, A0, k0, z0, nm0, hv, hq⟩ := hx0.form
  simp only [Value.agg.injEq, Array.mk.injEq, List.cons.injEq, and_true] at hv
  clear hq
  obtain ⟨rfl, rfl, rfl, rfl⟩ := hv
  have HX0 := Lib.hid (show ∀ W, PF B b w W → (W.cell? ⟨g, off, none⟩ = some (.string (toB y0.op)) ∧ W.cell? ⟨g, off + 1, none⟩ = some (.int .i64 n0) ∧ W.cell? ⟨g, off + 2, none⟩ = some (.string (toB nm0)) ∧ W.cell? ⟨g, off + 3, none⟩ = some (.slice A0 k0 z0) ∧ g < W.heap.size) ∧ ExV (fun g => g < B) W (.agg #[.string (toB y0.op), .int .i64 n0, .string (toB nm0), .slice A0 k0 z0]) y0 from fun W hf => ⟨⟨(World.cell?_of_block (a := ⟨g, off, none⟩) (hf.block g hg (by have := h0.le; omega) (.inl hgB))).trans p00, (World.cell?_of_block (a := ⟨g, off + 1, none⟩) (hf.block g hg (by have := h0.le; omega) (.inl hgB))).trans p01, (World.cell?_of_block (a := ⟨g, off + 2, none⟩) (hf.block g hg (by have := h0.le; omega) (.inl hgB))).trans p02, (World.cell?_of_block (a := ⟨g, off + 3, none⟩) (hf.block g hg (by have := h0.le; omega) (.inl hgB))).trans p03, Nat.lt_of_lt_of_le hg hf.size⟩, ExV.keep hf.size (fun k hk hl => ⟨hf.block k hl (by have := h0.le; omega) (.inl hk), hk⟩) y0 hx0⟩)
  have HE0 := Lib.hid E0
  clear hL hx0 E0 p00 p01 p02 p03
  have hBs : B ≤ w.heap.size := by have := hB.size; rw [h0.size] at this; exact this
  have HS := Lib.hid (SE.start (op := op) (nm := nm) (n := n) (A := some ⟨g, off, none⟩) (k := [y0].length) (c := c) hp hBs)
  have HBW := Lib.hid (fun W (hf : PF B b w W) => hB.trans (below_PF hf h0.le hBs))
  have hszO : (toB op).size = 1 := by rw [toB_size, HOp.out]; rfl
  have HCa := Lib.hid (show toB op = toB [33] by rw [HOp.out])
  have HCb := Lib.hid (show (⟨#[]⟩ : ByteArray) = toB [] by rfl)
  clear hop hx hp
  go_enter Tryz.func42, Tryz.ntmps42
  go_upto_region 1 with fail
  generalize (w.alloc (.cells #[.pointer (some ⟨b, 0, none⟩)] 80)).alloc (.cells #[.string (toB op), .int .i64 n, .string (toB nm), .slice (some ⟨g, off, none⟩) [y0].length c] 25) = w1 at *
  obtain ⟨c0, c1, c2, c3, c4, l1, l2, l3⟩ := HS.out.look
  go_wp2_with fail
  refine (cnt_any HS.out 1).mono ?_
  rintro e w2 ⟨rfl, hs2⟩
  have HS2 := Lib.hid hs2
  rw [show (([y0].length : Nat) : Int) = 1 from rfl, show ((1 : Int) == 1) = true from rfl] at HS2 ⊢
  rw [Bool.not_true, Bool.or_false] at HS2
  clear hs2 HS c0 c1 c2 c3 c4 l1 l2 l3
  obtain ⟨c0, c1, c2, c3, c4, l1, l2, l3⟩ := HS2.out.look
  go_upto_region 43 with fail
  go_wp2_with fail
  rw [HCa.out]
  refine (ws_any B b (L) ([33]) _ _ HS2.out.pr (by simp at hlen ⊢; omega) HS2.out.ne.2.2.1).mono ?_
  rintro e wn0 ⟨rfl, hp4, hf4⟩
  have HT0 := Lib.hid (show SE B b w.heap.size (w.heap.size + 1) op n nm (some ⟨g, off, none⟩) [y0].length c ((L) ++ ([33])) bad w wn0 from HS2.out.step hp4 hf4)
  clear hp4 hf4 HS2 c0 c1 c2 c3 c4 l1 l2 l3
  obtain ⟨c0, c1, c2, c3, c4, l1, l2, l3⟩ := HT0.out.look
  go_upto_region 44 with fail
  have q1 := (HX0.out _ HT0.out.pf).1
  obtain ⟨q10, q11, q12, q13, q14⟩ := q1
  go_cut [] (fun wx => SE B b w.heap.size (w.heap.size + 1) op n nm (some ⟨g, off, none⟩) [y0].length c (((L) ++ ([33])) ++ t0) (bad || bd0) w wx)
  case first =>
    go_region_law (first
      | (go_simp; go_at_call 87; refine (HE0.out _ _ ((L) ++ ([33])) bad (HX0.out _ HT0.out.drew.pf).2 HT0.out.drew.pr (HBW.out _ HT0.out.drew.pf) (by simp at hlen ⊢; omega)).mono ?_; rintro e w4 ⟨rfl, hp4, hf4⟩; have HSn := Lib.hid (HT0.out.drew.step hp4 hf4); clear hp4 hf4))
    all_goals
      go_wp2_with fail
      go_meet
      exact HSn.out
  case rest =>
  have HT1 := Lib.hid hcut
  clear hcut HT0 q10 q11 q12 q13 q14 c0 c1 c2 c3 c4 l1 l2 l3
  obtain ⟨c0, c1, c2, c3, c4, l1, l2, l3⟩ := HT1.out.look
  go_upto_region 45 with fail
  go_wp2_with fail
  rw [HCb.out]
  refine (ws_any B b (((L) ++ ([33])) ++ t0) ([]) _ _ HT1.out.pr (by simp at hlen ⊢; omega) HT1.out.ne.2.2.1).mono ?_
  rintro e wn2 ⟨rfl, hp4, hf4⟩
  have HT2 := Lib.hid (show SE B b w.heap.size (w.heap.size + 1) op n nm (some ⟨g, off, none⟩) [y0].length c ((((L) ++ ([33])) ++ t0) ++ ([])) (bad || bd0) w wn2 from HT1.out.step hp4 hf4)
  clear hp4 hf4 HT1 c0 c1 c2 c3 c4 l1 l2 l3
  go_wp2_with fail
  go_end0
  exact ⟨rfl, (by simpa using  HT2.out.pr), HT2.out.pf⟩

set_option maxRecDepth 100000 in
set_option maxHeartbeats 6400000 in
theorem pe_u3 (w0 : World) (B b : Nat) (h0 : W0 w0 B b) (n : Int) (nm : List UInt8) (y0 : Ex) (t0 : List UInt8) (bd0 : Bool) (E0 : PO w0 B b y0 t0 bd0) : PE w0 B b (.mk [126] n nm [y0]) ([126] ++ (t0 ++ [])) bd0 := by
  intro v w L bad hx hp hB hlen
  obtain ⟨op, hop⟩ : ∃ op, ([126] : List UInt8) = op := ⟨_, rfl⟩
  rw [hop] at hx
  obtain ⟨A, c, rfl, _, hA⟩ := hx.parts
  have HOp := Lib.hid hop.symm
  have f0 : ((toB op).toList == [110]) = false := by rw [toB_toList, HOp.out]; rfl
  have f1 : ((toB op).toList == [118]) = false := by rw [toB_toList, HOp.out]; rfl
  have f2 : ((toB op).toList == [101]) = false := by rw [toB_toList, HOp.out]; rfl
  have f3 : ((toB op).toList == [63]) = false := by rw [toB_toList, HOp.out]; rfl
  have f4 : ((toB op).toList == [117, 45]) = false := by rw [toB_toList, HOp.out]; rfl
  have f5 : ((toB op).toList == [117, 43]) = false := by rw [toB_toList, HOp.out]; rfl
  have f6 : ((toB op).toList == [33]) = false := by rw [toB_toList, HOp.out]; rfl
  have f7 : ((toB op).toList == [126]) = true := by rw [toB_toList, HOp.out]; rfl
  obtain ⟨g, off, rfl, hgB, hg, hL⟩ := hA (by simp)
  obtain ⟨v0, v1, v2, v3, p00, p01, p02, p03, hx0⟩ := ex0 hL
  obtain ⟨n0, A0, k0, z0, nm0, hv, hq⟩ := hx0.form
  simp only [Value.agg.injEq, Array.mk.injEq, List.cons.injEq, and_true] at hv
  clear hq
  obtain ⟨rfl, rfl, rfl, rfl⟩ := hv
  have HX0 := Lib.hid (show ∀ W, PF B b w W → (W.cell? ⟨g, off, none⟩ = some (.string (toB y0.op)) ∧ W.cell? ⟨g, off + 1, none⟩ = some (.int .i64 n0) ∧ W.cell? ⟨g, off + 2, none⟩ = some (.string (toB nm0)) ∧ W.cell? ⟨g, off + 3, none⟩ = some (.slice A0 k0 z0) ∧ g < W.heap.size) ∧ ExV (fun g => g < B) W (.agg #[.string (toB y0.op), .int .i64 n0, .string (toB nm0), .slice A0 k0 z0]) y0 from fun W hf => ⟨⟨(World.cell?_of_block (a := ⟨g, off, none⟩) (hf.block g hg (by have := h0.le; omega) (.inl hgB))).trans p00, (World.cell?_of_block (a := ⟨g, off + 1, none⟩) (hf.block g hg (by have := h0.le; omega) (.inl hgB))).trans p01, (World.cell?_of_block (a := ⟨g, off + 2, none⟩) (hf.block g hg (by have := h0.le; omega) (.inl hgB))).trans p02, (World.cell?_of_block (a := ⟨g, off + 3, none⟩) (hf.block g hg (by have := h0.le; omega) (.inl hgB))).trans p03, Nat.lt_of_lt_of_le hg hf.size⟩, ExV.keep hf.size (fun k hk hl => ⟨hf.block k hl (by have := h0.le; omega) (.inl hk), hk⟩) y0 hx0⟩)
  have HE0 := Lib.hid E0
  clear hL hx0 E0 p00 p01 p02 p03
  have hBs : B ≤ w.heap.size := by have := hB.size; rw [h0.size] at this; exact this
  have HS := Lib.hid (SE.start (op := op) (nm := nm) (n := n) (A := some ⟨g, off, none⟩) (k := [y0].length) (c := c) hp hBs)
  have HBW := Lib.hid (fun W (hf : PF B b w W) => hB.trans (below_PF hf h0.le hBs))
  have hszO : (toB op).size = 1 := by rw [toB_size, HOp.out]; rfl
  have HCa := Lib.hid (show toB op = toB [126] by rw [HOp.out])
  have HCb := Lib.hid (show (⟨#[]⟩ : ByteArray) = toB [] by rfl)
  clear hop hx hp
  go_enter Tryz.func42, Tryz.ntmps42
  go_upto_region 1 with fail
  generalize (w.alloc (.cells #[.pointer (some ⟨b, 0, none⟩)] 80)).alloc (.cells #[.string (toB op), .int .i64 n, .string (toB nm), .slice (some ⟨g, off, none⟩) [y0].length c] 25) = w1 at *
  obtain ⟨c0, c1, c2, c3, c4, l1, l2, l3⟩ := HS.out.look
  go_wp2_with fail
  refine (cnt_any HS.out 1).mono ?_
  rintro e w2 ⟨rfl, hs2⟩
  have HS2 := Lib.hid hs2
  rw [show (([y0].length : Nat) : Int) = 1 from rfl, show ((1 : Int) == 1) = true from rfl] at HS2 ⊢
  rw [Bool.not_true, Bool.or_false] at HS2
  clear hs2 HS c0 c1 c2 c3 c4 l1 l2 l3
  obtain ⟨c0, c1, c2, c3, c4, l1, l2, l3⟩ := HS2.out.look
  go_upto_region 43 with fail
  go_wp2_with fail
  rw [HCa.out]
  refine (ws_any B b (L) ([126]) _ _ HS2.out.pr (by simp at hlen ⊢; omega) HS2.out.ne.2.2.1).mono ?_
  rintro e wn0 ⟨rfl, hp4, hf4⟩
  have HT0 := Lib.hid (show SE B b w.heap.size (w.heap.size + 1) op n nm (some ⟨g, off, none⟩) [y0].length c ((L) ++ ([126])) bad w wn0 from HS2.out.step hp4 hf4)
  clear hp4 hf4 HS2 c0 c1 c2 c3 c4 l1 l2 l3
  obtain ⟨c0, c1, c2, c3, c4, l1, l2, l3⟩ := HT0.out.look
  go_upto_region 44 with fail
  have q1 := (HX0.out _ HT0.out.pf).1
  obtain ⟨q10, q11, q12, q13, q14⟩ := q1
  go_cut [] (fun wx => SE B b w.heap.size (w.heap.size + 1) op n nm (some ⟨g, off, none⟩) [y0].length c (((L) ++ ([126])) ++ t0) (bad || bd0) w wx)
  case first =>
    go_region_law (first
      | (go_simp; go_at_call 87; refine (HE0.out _ _ ((L) ++ ([126])) bad (HX0.out _ HT0.out.drew.pf).2 HT0.out.drew.pr (HBW.out _ HT0.out.drew.pf) (by simp at hlen ⊢; omega)).mono ?_; rintro e w4 ⟨rfl, hp4, hf4⟩; have HSn := Lib.hid (HT0.out.drew.step hp4 hf4); clear hp4 hf4))
    all_goals
      go_wp2_with fail
      go_meet
      exact HSn.out
  case rest =>
  have HT1 := Lib.hid hcut
  clear hcut HT0 q10 q11 q12 q13 q14 c0 c1 c2 c3 c4 l1 l2 l3
  obtain ⟨c0, c1, c2, c3, c4, l1, l2, l3⟩ := HT1.out.look
  go_upto_region 45 with fail
  go_wp2_with fail
  rw [HCb.out]
  refine (ws_any B b (((L) ++ ([126])) ++ t0) ([]) _ _ HT1.out.pr (by simp at hlen ⊢; omega) HT1.out.ne.2.2.1).mono ?_
  rintro e wn2 ⟨rfl, hp4, hf4⟩
  have HT2 := Lib.hid (show SE B b w.heap.size (w.heap.size + 1) op n nm (some ⟨g, off, none⟩) [y0].length c ((((L) ++ ([126])) ++ t0) ++ ([])) (bad || bd0) w wn2 from HT1.out.step hp4 hf4)
  clear hp4 hf4 HT1 c0 c1 c2 c3 c4 l1 l2 l3
  go_wp2_with fail
  go_end0
  exact ⟨rfl, (by simpa using  HT2.out.pr), HT2.out.pf⟩

set_option maxRecDepth 100000 in
set_option maxHeartbeats 6400000 in
theorem pe_u4 (w0 : World) (B b : Nat) (h0 : W0 w0 B b) (n : Int) (nm : List UInt8) (y0 : Ex) (t0 : List UInt8) (bd0 : Bool) (E0 : PO w0 B b y0 t0 bd0) : PE w0 B b (.mk [43, 43, 118] n nm [y0]) ([43, 43] ++ (t0 ++ [])) bd0 := by
  intro v w L bad hx hp hB hlen
  obtain ⟨op, hop⟩ : ∃ op, ([43, 43, 118] : List UInt8) = op := ⟨_, rfl⟩
  rw [hop] at hx
  obtain ⟨A, c, rfl, _, hA⟩ := hx.parts
  have HOp := Lib.hid hop.symm
  have f0 : ((toB op).toList == [110]) = false := by rw [toB_toList, HOp.out]; rfl
  have f1 : ((toB op).toList == [118]) = false := by rw [toB_toList, HOp.out]; rfl
  have f2 : ((toB op).toList == [101]) = false := by rw [toB_toList, HOp.out]; rfl
  have f3 : ((toB op).toList == [63]) = false := by rw [toB_toList, HOp.out]; rfl
  have f4 : ((toB op).toList == [117, 45]) = false := by rw [toB_toList, HOp.out]; rfl
  have f5 : ((toB op).toList == [117, 43]) = false := by rw [toB_toList, HOp.out]; rfl
  have f6 : ((toB op).toList == [33]) = false := by rw [toB_toList, HOp.out]; rfl
  have f7 : ((toB op).toList == [126]) = false := by rw [toB_toList, HOp.out]; rfl
  have f8 : ((toB op).toList == [43, 43, 118]) = true := by rw [toB_toList, HOp.out]; rfl
  obtain ⟨g, off, rfl, hgB, hg, hL⟩ := hA (by simp)
  obtain ⟨v0, v1, v2, v3, p00, p01, p02, p03, hx0⟩ := ex0 hL
  obtain ⟨n0, A0, k0, z0, nm0, hv, hq⟩ := hx0.form
  simp only [Value.agg.injEq, Array.mk.injEq, List.cons.injEq, and_true] at hv
  clear hq
  obtain ⟨rfl, rfl, rfl, rfl⟩ := hv
  have HX0 := Lib.hid (show ∀ W, PF B b w W → (W.cell? ⟨g, off, none⟩ = some (.string (toB y0.op)) ∧ W.cell? ⟨g, off + 1, none⟩ = some (.int .i64 n0) ∧ W.cell? ⟨g, off + 2, none⟩ = some (.string (toB nm0)) ∧ W.cell? ⟨g, off + 3, none⟩ = some (.slice A0 k0 z0) ∧ g < W.heap.size) ∧ ExV (fun g => g < B) W (.agg #[.string (toB y0.op), .int .i64 n0, .string (toB nm0), .slice A0 k0 z0]) y0 from fun W hf => ⟨⟨(World.cell?_of_block (a := ⟨g, off, none⟩) (hf.block g hg (by have := h0.le; omega) (.inl hgB))).trans p00, (World.cell?_of_block (a := ⟨g, off + 1, none⟩) (hf.block g hg (by have := h0.le; omega) (.inl hgB))).trans p01, (World.cell?_of_block (a := ⟨g, off + 2, none⟩) (hf.block g hg (by have := h0.le; omega) (.inl hgB))).trans p02, (World.cell?_of_block (a := ⟨g, off + 3, none⟩) (hf.block g hg (by have := h0.le; omega) (.inl hgB))).trans p03, Nat.lt_of_lt_of_le hg hf.size⟩, ExV.keep hf.size (fun k hk hl => ⟨hf.block k hl (by have := h0.le; omega) (.inl hk), hk⟩) y0 hx0⟩)
  have HE0 := Lib.hid E0
  clear hL hx0 E0 p00 p01 p02 p03
  have hBs : B ≤ w.heap.size := by have := hB.size; rw [h0.size] at this; exact this
  have HS := Lib.hid (SE.start (op := op) (nm := nm) (n := n) (A := some ⟨g, off, none⟩) (k := [y0].length) (c := c) hp hBs)
  have HBW := Lib.hid (fun W (hf : PF B b w W) => hB.trans (below_PF hf h0.le hBs))
  have hszO : (toB op).size = 3 := by rw [toB_size, HOp.out]; rfl
  have HCa := Lib.hid (show (toB op).extract 0 2 = toB [43, 43] by rw [HOp.out]; rfl)
  have HCb := Lib.hid (show (⟨#[]⟩ : ByteArray) = toB [] by rfl)
  clear hop hx hp
  go_enter Tryz.func42, Tryz.ntmps42
  go_upto_region 1 with fail
  generalize (w.alloc (.cells #[.pointer (some ⟨b, 0, none⟩)] 80)).alloc (.cells #[.string (toB op), .int .i64 n, .string (toB nm), .slice (some ⟨g, off, none⟩) [y0].length c] 25) = w1 at *
  obtain ⟨c0, c1, c2, c3, c4, l1, l2, l3⟩ := HS.out.look
  go_wp2_with fail
  refine (cnt_any HS.out 1).mono ?_
  rintro e w2 ⟨rfl, hs2⟩
  have HS2 := Lib.hid hs2
  rw [show (([y0].length : Nat) : Int) = 1 from rfl, show ((1 : Int) == 1) = true from rfl] at HS2 ⊢
  rw [Bool.not_true, Bool.or_false] at HS2
  clear hs2 HS c0 c1 c2 c3 c4 l1 l2 l3
  obtain ⟨c0, c1, c2, c3, c4, l1, l2, l3⟩ := HS2.out.look
  go_upto_region 43 with fail
  go_wp2_with fail
  rw [HCa.out]
  refine (ws_any B b (L) ([43, 43]) _ _ HS2.out.pr (by simp at hlen ⊢; omega) HS2.out.ne.2.2.1).mono ?_
  rintro e wn0 ⟨rfl, hp4, hf4⟩
  have HT0 := Lib.hid (show SE B b w.heap.size (w.heap.size + 1) op n nm (some ⟨g, off, none⟩) [y0].length c ((L) ++ ([43, 43])) bad w wn0 from HS2.out.step hp4 hf4)
  clear hp4 hf4 HS2 c0 c1 c2 c3 c4 l1 l2 l3
  obtain ⟨c0, c1, c2, c3, c4, l1, l2, l3⟩ := HT0.out.look
  go_upto_region 44 with fail
  have q1 := (HX0.out _ HT0.out.pf).1
  obtain ⟨q10, q11, q12, q13, q14⟩ := q1
  go_cut [] (fun wx => SE B b w.heap.size (w.heap.size + 1) op n nm (some ⟨g, off, none⟩) [y0].length c (((L) ++ ([43, 43])) ++ t0) (bad || bd0) w wx)
  case first =>
    go_region_law (first
      | (go_simp; go_at_call 87; refine (HE0.out _ _ ((L) ++ ([43, 43])) bad (HX0.out _ HT0.out.drew.pf).2 HT0.out.drew.pr (HBW.out _ HT0.out.drew.pf) (by simp at hlen ⊢; omega)).mono ?_; rintro e w4 ⟨rfl, hp4, hf4⟩; have HSn := Lib.hid (HT0.out.drew.step hp4 hf4); clear hp4 hf4))
    all_goals
      go_wp2_with fail
      go_meet
      exact HSn.out
  case rest =>
  have HT1 := Lib.hid hcut
  clear hcut HT0 q10 q11 q12 q13 q14 c0 c1 c2 c3 c4 l1 l2 l3
  obtain ⟨c0, c1, c2, c3, c4, l1, l2, l3⟩ := HT1.out.look
  go_upto_region 45 with fail
  go_wp2_with fail
  rw [HCb.out]
  refine (ws_any B b (((L) ++ ([43, 43])) ++ t0) ([]) _ _ HT1.out.pr (by simp at hlen ⊢; omega) HT1.out.ne.2.2.1).mono ?_
  rintro e wn2 ⟨rfl, hp4, hf4⟩
  have HT2 := Lib.hid (show SE B b w.heap.size (w.heap.size + 1) op n nm (some ⟨g, off, none⟩) [y0].length c ((((L) ++ ([43, 43])) ++ t0) ++ ([])) (bad || bd0) w wn2 from HT1.out.step hp4 hf4)
  clear hp4 hf4 HT1 c0 c1 c2 c3 c4 l1 l2 l3
  go_wp2_with fail
  go_end0
  exact ⟨rfl, (by simpa using  HT2.out.pr), HT2.out.pf⟩

set_option maxRecDepth 100000 in
set_option maxHeartbeats 6400000 in
theorem pe_u5 (w0 : World) (B b : Nat) (h0 : W0 w0 B b) (n : Int) (nm : List UInt8) (y0 : Ex) (t0 : List UInt8) (bd0 : Bool) (E0 : PO w0 B b y0 t0 bd0) : PE w0 B b (.mk [45, 45, 118] n nm [y0]) ([45, 45] ++ (t0 ++ [])) bd0 := by
  intro v w L bad hx hp hB hlen
  obtain ⟨op, hop⟩ : ∃ op, ([45, 45, 118] : List UInt8) = op := ⟨_, rfl⟩
  rw [hop] at hx
  obtain ⟨A, c, rfl, _, hA⟩ := hx.parts
  have HOp := Lib.hid hop.symm
  have f0 : ((toB op).toList == [110]) = false := by rw [toB_toList, HOp.out]; rfl
  have f1 : ((toB op).toList == [118]) = false := by rw [toB_toList, HOp.out]; rfl
  have f2 : ((toB op).toList == [101]) = false := by rw [toB_toList, HOp.out]; rfl
  have f3 : ((toB op).toList == [63]) = false := by rw [toB_toList, HOp.out]; rfl
  have f4 : ((toB op).toList == [117, 45]) = false := by rw [toB_toList, HOp.out]; rfl
  have f5 : ((toB op).toList == [117, 43]) = false := by rw [toB_toList, HOp.out]; rfl
  have f6 : ((toB op).toList == [33]) = false := by rw [toB_toList, HOp.out]; rfl
  have f7 : ((toB op).toList == [126]) = false := by rw [toB_toList, HOp.out]; rfl
  have f8 : ((toB op).toList == [43, 43, 118]) = false := by rw [toB_toList, HOp.out]; rfl
  have f9 : ((toB op).toList == [45, 45, 118]) = true := by rw [toB_toList, HOp.out]; rfl
  obtain ⟨g, off, rfl, hgB, hg, hL⟩ := hA (by simp)
  obtain ⟨v0, v1, v2, v3, p00, p01, p02, p03, hx0⟩ := ex0 hL
  obtain ⟨n0, A0, k0, z0, nm0, hv, hq⟩ := hx0.form
  simp only [Value.agg.injEq, Array.mk.injEq, List.cons.injEq, and_true] at hv
  clear hq
  obtain ⟨rfl, rfl, rfl, rfl⟩ := hv
  have HX0 := Lib.hid (show ∀ W, PF B b w W → (W.cell? ⟨g, off, none⟩ = some (.string (toB y0.op)) ∧ W.cell? ⟨g, off + 1, none⟩ = some (.int .i64 n0) ∧ W.cell? ⟨g, off + 2, none⟩ = some (.string (toB nm0)) ∧ W.cell? ⟨g, off + 3, none⟩ = some (.slice A0 k0 z0) ∧ g < W.heap.size) ∧ ExV (fun g => g < B) W (.agg #[.string (toB y0.op), .int .i64 n0, .string (toB nm0), .slice A0 k0 z0]) y0 from fun W hf => ⟨⟨(World.cell?_of_block (a := ⟨g, off, none⟩) (hf.block g hg (by have := h0.le; omega) (.inl hgB))).trans p00, (World.cell?_of_block (a := ⟨g, off + 1, none⟩) (hf.block g hg (by have := h0.le; omega) (.inl hgB))).trans p01, (World.cell?_of_block (a := ⟨g, off + 2, none⟩) (hf.block g hg (by have := h0.le; omega) (.inl hgB))).trans p02, (World.cell?_of_block (a := ⟨g, off + 3, none⟩) (hf.block g hg (by have := h0.le; omega) (.inl hgB))).trans p03, Nat.lt_of_lt_of_le hg hf.size⟩, ExV.keep hf.size (fun k hk hl => ⟨hf.block k hl (by have := h0.le; omega) (.inl hk), hk⟩) y0 hx0⟩)
  have HE0 := Lib.hid E0
  clear hL hx0 E0 p00 p01 p02 p03
  have hBs : B ≤ w.heap.size := by have := hB.size; rw [h0.size] at this; exact this
  have HS := Lib.hid (SE.start (op := op) (nm := nm) (n := n) (A := some ⟨g, off, none⟩) (k := [y0].length) (c := c) hp hBs)
  have HBW := Lib.hid (fun W (hf : PF B b w W) => hB.trans (below_PF hf h0.le hBs))
  have hszO : (toB op).size = 3 := by rw [toB_size, HOp.out]; rfl
  have HCa := Lib.hid (show (toB op).extract 0 2 = toB [45, 45] by rw [HOp.out]; rfl)
  have HCb := Lib.hid (show (⟨#[]⟩ : ByteArray) = toB [] by rfl)
  clear hop hx hp
  go_enter Tryz.func42, Tryz.ntmps42
  go_upto_region 1 with fail
  generalize (w.alloc (.cells #[.pointer (some ⟨b, 0, none⟩)] 80)).alloc (.cells #[.string (toB op), .int .i64 n, .string (toB nm), .slice (some ⟨g, off, none⟩) [y0].length c] 25) = w1 at *
  obtain ⟨c0, c1, c2, c3, c4, l1, l2, l3⟩ := HS.out.look
  go_wp2_with fail
  refine (cnt_any HS.out 1).mono ?_
  rintro e w2 ⟨rfl, hs2⟩
  have HS2 := Lib.hid hs2
  rw [show (([y0].length : Nat) : Int) = 1 from rfl, show ((1 : Int) == 1) = true from rfl] at HS2 ⊢
  rw [Bool.not_true, Bool.or_false] at HS2
  clear hs2 HS c0 c1 c2 c3 c4 l1 l2 l3
  obtain ⟨c0, c1, c2, c3, c4, l1, l2, l3⟩ := HS2.out.look
  go_upto_region 43 with fail
  go_wp2_with fail
  rw [HCa.out]
  refine (ws_any B b (L) ([45, 45]) _ _ HS2.out.pr (by simp at hlen ⊢; omega) HS2.out.ne.2.2.1).mono ?_
  rintro e wn0 ⟨rfl, hp4, hf4⟩
  have HT0 := Lib.hid (show SE B b w.heap.size (w.heap.size + 1) op n nm (some ⟨g, off, none⟩) [y0].length c ((L) ++ ([45, 45])) bad w wn0 from HS2.out.step hp4 hf4)
  clear hp4 hf4 HS2 c0 c1 c2 c3 c4 l1 l2 l3
  obtain ⟨c0, c1, c2, c3, c4, l1, l2, l3⟩ := HT0.out.look
  go_upto_region 44 with fail
  have q1 := (HX0.out _ HT0.out.pf).1
  obtain ⟨q10, q11, q12, q13, q14⟩ := q1
  go_cut [] (fun wx => SE B b w.heap.size (w.heap.size + 1) op n nm (some ⟨g, off, none⟩) [y0].length c (((L) ++ ([45, 45])) ++ t0) (bad || bd0) w wx)
  case first =>
    go_region_law (first
      | (go_simp; go_at_call 87; refine (HE0.out _ _ ((L) ++ ([45, 45])) bad (HX0.out _ HT0.out.drew.pf).2 HT0.out.drew.pr (HBW.out _ HT0.out.drew.pf) (by simp at hlen ⊢; omega)).mono ?_; rintro e w4 ⟨rfl, hp4, hf4⟩; have HSn := Lib.hid (HT0.out.drew.step hp4 hf4); clear hp4 hf4))
    all_goals
      go_wp2_with fail
      go_meet
      exact HSn.out
  case rest =>
  have HT1 := Lib.hid hcut
  clear hcut HT0 q10 q11 q12 q13 q14 c0 c1 c2 c3 c4 l1 l2 l3
  obtain ⟨c0, c1, c2, c3, c4, l1, l2, l3⟩ := HT1.out.look
  go_upto_region 45 with fail
  go_wp2_with fail
  rw [HCb.out]
  refine (ws_any B b (((L) ++ ([45, 45])) ++ t0) ([]) _ _ HT1.out.pr (by simp at hlen ⊢; omega) HT1.out.ne.2.2.1).mono ?_
  rintro e wn2 ⟨rfl, hp4, hf4⟩
  have HT2 := Lib.hid (show SE B b w.heap.size (w.heap.size + 1) op n nm (some ⟨g, off, none⟩) [y0].length c ((((L) ++ ([45, 45])) ++ t0) ++ ([])) (bad || bd0) w wn2 from HT1.out.step hp4 hf4)
  clear hp4 hf4 HT1 c0 c1 c2 c3 c4 l1 l2 l3
  go_wp2_with fail
  go_end0
  exact ⟨rfl, (by simpa using  HT2.out.pr), HT2.out.pf⟩

set_option maxRecDepth 100000 in
set_option maxHeartbeats 6400000 in
theorem pe_u6 (w0 : World) (B b : Nat) (h0 : W0 w0 B b) (n : Int) (nm : List UInt8) (y0 : Ex) (t0 : List UInt8) (bd0 : Bool) (E0 : PO w0 B b y0 t0 bd0) : PE w0 B b (.mk [118, 43, 43] n nm [y0]) ([] ++ (t0 ++ [43, 43])) bd0 := by
  intro v w L bad hx hp hB hlen
  obtain ⟨op, hop⟩ : ∃ op, ([118, 43, 43] : List UInt8) = op := ⟨_, rfl⟩
  rw [hop] at hx
  obtain ⟨A, c, rfl, _, hA⟩ := hx.parts
  have HOp := Lib.hid hop.symm
  have f0 : ((toB op).toList == [110]) = false := by rw [toB_toList, HOp.out]; rfl
  have f1 : ((toB op).toList == [118]) = false := by rw [toB_toList, HOp.out]; rfl
  have f2 : ((toB op).toList == [101]) = false := by rw [toB_toList, HOp.out]; rfl
  have f3 : ((toB op).toList == [63]) = false := by rw [toB_toList, HOp.out]; rfl
  have f4 : ((toB op).toList == [117, 45]) = false := by rw [toB_toList, HOp.out]; rfl
  have f5 : ((toB op).toList == [117, 43]) = false := by rw [toB_toList, HOp.out]; rfl
  have f6 : ((toB op).toList == [33]) = false := by rw [toB_toList, HOp.out]; rfl
  have f7 : ((toB op).toList == [126]) = false := by rw [toB_toList, HOp.out]; rfl
  have f8 : ((toB op).toList == [43, 43, 118]) = false := by rw [toB_toList, HOp.out]; rfl
  have f9 : ((toB op).toList == [45, 45, 118]) = false := by rw [toB_toList, HOp.out]; rfl
  have f10 : ((toB op).toList == [118, 43, 43]) = true := by rw [toB_toList, HOp.out]; rfl
  obtain ⟨g, off, rfl, hgB, hg, hL⟩ := hA (by simp)
  obtain ⟨v0, v1, v2, v3, p00, p01, p02, p03, hx0⟩ := ex0 hL
  obtain ⟨n0, A0, k0, z0, nm0, hv, hq⟩ := hx0.form
  simp only [Value.agg.injEq, Array.mk.injEq, List.cons.injEq, and_true] at hv
  clear hq
  obtain ⟨rfl, rfl, rfl, rfl⟩ := hv
  have HX0 := Lib.hid (show ∀ W, PF B b w W → (W.cell? ⟨g, off, none⟩ = some (.string (toB y0.op)) ∧ W.cell? ⟨g, off + 1, none⟩ = some (.int .i64 n0) ∧ W.cell? ⟨g, off + 2, none⟩ = some (.string (toB nm0)) ∧ W.cell? ⟨g, off + 3, none⟩ = some (.slice A0 k0 z0) ∧ g < W.heap.size) ∧ ExV (fun g => g < B) W (.agg #[.string (toB y0.op), .int .i64 n0, .string (toB nm0), .slice A0 k0 z0]) y0 from fun W hf => ⟨⟨(World.cell?_of_block (a := ⟨g, off, none⟩) (hf.block g hg (by have := h0.le; omega) (.inl hgB))).trans p00, (World.cell?_of_block (a := ⟨g, off + 1, none⟩) (hf.block g hg (by have := h0.le; omega) (.inl hgB))).trans p01, (World.cell?_of_block (a := ⟨g, off + 2, none⟩) (hf.block g hg (by have := h0.le; omega) (.inl hgB))).trans p02, (World.cell?_of_block (a := ⟨g, off + 3, none⟩) (hf.block g hg (by have := h0.le; omega) (.inl hgB))).trans p03, Nat.lt_of_lt_of_le hg hf.size⟩, ExV.keep hf.size (fun k hk hl => ⟨hf.block k hl (by have := h0.le; omega) (.inl hk), hk⟩) y0 hx0⟩)
  have HE0 := Lib.hid E0
  clear hL hx0 E0 p00 p01 p02 p03
  have hBs : B ≤ w.heap.size := by have := hB.size; rw [h0.size] at this; exact this
  have HS := Lib.hid (SE.start (op := op) (nm := nm) (n := n) (A := some ⟨g, off, none⟩) (k := [y0].length) (c := c) hp hBs)
  have HBW := Lib.hid (fun W (hf : PF B b w W) => hB.trans (below_PF hf h0.le hBs))
  have hszO : (toB op).size = 3 := by rw [toB_size, HOp.out]; rfl
  have HCa := Lib.hid (show (⟨#[]⟩ : ByteArray) = toB [] by rfl)
  have HCb := Lib.hid (show (toB op).extract 1 3 = toB [43, 43] by rw [HOp.out]; rfl)
  clear hop hx hp
  go_enter Tryz.func42, Tryz.ntmps42
  go_upto_region 1 with fail
  generalize (w.alloc (.cells #[.pointer (some ⟨b, 0, none⟩)] 80)).alloc (.cells #[.string (toB op), .int .i64 n, .string (toB nm), .slice (some ⟨g, off, none⟩) [y0].length c] 25) = w1 at *
  obtain ⟨c0, c1, c2, c3, c4, l1, l2, l3⟩ := HS.out.look
  go_wp2_with fail
  refine (cnt_any HS.out 1).mono ?_
  rintro e w2 ⟨rfl, hs2⟩
  have HS2 := Lib.hid hs2
  rw [show (([y0].length : Nat) : Int) = 1 from rfl, show ((1 : Int) == 1) = true from rfl] at HS2 ⊢
  rw [Bool.not_true, Bool.or_false] at HS2
  clear hs2 HS c0 c1 c2 c3 c4 l1 l2 l3
  obtain ⟨c0, c1, c2, c3, c4, l1, l2, l3⟩ := HS2.out.look
  go_upto_region 43 with fail
  go_wp2_with fail
  rw [HCa.out]
  refine (ws_any B b (L) ([]) _ _ HS2.out.pr (by simp at hlen ⊢; omega) HS2.out.ne.2.2.1).mono ?_
  rintro e wn0 ⟨rfl, hp4, hf4⟩
  have HT0 := Lib.hid (show SE B b w.heap.size (w.heap.size + 1) op n nm (some ⟨g, off, none⟩) [y0].length c ((L) ++ ([])) bad w wn0 from HS2.out.step hp4 hf4)
  clear hp4 hf4 HS2 c0 c1 c2 c3 c4 l1 l2 l3
  obtain ⟨c0, c1, c2, c3, c4, l1, l2, l3⟩ := HT0.out.look
  go_upto_region 44 with fail
  have q1 := (HX0.out _ HT0.out.pf).1
  obtain ⟨q10, q11, q12, q13, q14⟩ := q1
  go_cut [] (fun wx => SE B b w.heap.size (w.heap.size + 1) op n nm (some ⟨g, off, none⟩) [y0].length c (((L) ++ ([])) ++ t0) (bad || bd0) w wx)
  case first =>
    go_region_law (first
      | (go_simp; go_at_call 87; refine (HE0.out _ _ ((L) ++ ([])) bad (HX0.out _ HT0.out.drew.pf).2 HT0.out.drew.pr (HBW.out _ HT0.out.drew.pf) (by simp at hlen ⊢; omega)).mono ?_; rintro e w4 ⟨rfl, hp4, hf4⟩; have HSn := Lib.hid (HT0.out.drew.step hp4 hf4); clear hp4 hf4))
    all_goals
      go_wp2_with fail
      go_meet
      exact HSn.out
  case rest =>
  have HT1 := Lib.hid hcut
  clear hcut HT0 q10 q11 q12 q13 q14 c0 c1 c2 c3 c4 l1 l2 l3
  obtain ⟨c0, c1, c2, c3, c4, l1, l2, l3⟩ := HT1.out.look
  go_upto_region 45 with fail
  go_wp2_with fail
  rw [HCb.out]
  refine (ws_any B b (((L) ++ ([])) ++ t0) ([43, 43]) _ _ HT1.out.pr (by simp at hlen ⊢; omega) HT1.out.ne.2.2.1).mono ?_
  rintro e wn2 ⟨rfl, hp4, hf4⟩
  have HT2 := Lib.hid (show SE B b w.heap.size (w.heap.size + 1) op n nm (some ⟨g, off, none⟩) [y0].length c ((((L) ++ ([])) ++ t0) ++ ([43, 43])) (bad || bd0) w wn2 from HT1.out.step hp4 hf4)
  clear hp4 hf4 HT1 c0 c1 c2 c3 c4 l1 l2 l3
  go_wp2_with fail
  go_end0
  exact ⟨rfl, (by simpa using  HT2.out.pr), HT2.out.pf⟩

set_option maxRecDepth 100000 in
set_option maxHeartbeats 6400000 in
theorem pe_u7 (w0 : World) (B b : Nat) (h0 : W0 w0 B b) (n : Int) (nm : List UInt8) (y0 : Ex) (t0 : List UInt8) (bd0 : Bool) (E0 : PO w0 B b y0 t0 bd0) : PE w0 B b (.mk [118, 45, 45] n nm [y0]) ([] ++ (t0 ++ [45, 45])) bd0 := by
  intro v w L bad hx hp hB hlen
  obtain ⟨op, hop⟩ : ∃ op, ([118, 45, 45] : List UInt8) = op := ⟨_, rfl⟩
  rw [hop] at hx
  obtain ⟨A, c, rfl, _, hA⟩ := hx.parts
  have HOp := Lib.hid hop.symm
  have f0 : ((toB op).toList == [110]) = false := by rw [toB_toList, HOp.out]; rfl
  have f1 : ((toB op).toList == [118]) = false := by rw [toB_toList, HOp.out]; rfl
  have f2 : ((toB op).toList == [101]) = false := by rw [toB_toList, HOp.out]; rfl
  have f3 : ((toB op).toList == [63]) = false := by rw [toB_toList, HOp.out]; rfl
  have f4 : ((toB op).toList == [117, 45]) = false := by rw [toB_toList, HOp.out]; rfl
  have f5 : ((toB op).toList == [117, 43]) = false := by rw [toB_toList, HOp.out]; rfl
  have f6 : ((toB op).toList == [33]) = false := by rw [toB_toList, HOp.out]; rfl
  have f7 : ((toB op).toList == [126]) = false := by rw [toB_toList, HOp.out]; rfl
  have f8 : ((toB op).toList == [43, 43, 118]) = false := by rw [toB_toList, HOp.out]; rfl
  have f9 : ((toB op).toList == [45, 45, 118]) = false := by rw [toB_toList, HOp.out]; rfl
  have f10 : ((toB op).toList == [118, 43, 43]) = false := by rw [toB_toList, HOp.out]; rfl
  have f11 : ((toB op).toList == [118, 45, 45]) = true := by rw [toB_toList, HOp.out]; rfl
  obtain ⟨g, off, rfl, hgB, hg, hL⟩ := hA (by simp)
  obtain ⟨v0, v1, v2, v3, p00, p01, p02, p03, hx0⟩ := ex0 hL
  obtain ⟨n0, A0, k0, z0, nm0, hv, hq⟩ := hx0.form
  simp only [Value.agg.injEq, Array.mk.injEq, List.cons.injEq, and_true] at hv
  clear hq
  obtain ⟨rfl, rfl, rfl, rfl⟩ := hv
  have HX0 := Lib.hid (show ∀ W, PF B b w W → (W.cell? ⟨g, off, none⟩ = some (.string (toB y0.op)) ∧ W.cell? ⟨g, off + 1, none⟩ = some (.int .i64 n0) ∧ W.cell? ⟨g, off + 2, none⟩ = some (.string (toB nm0)) ∧ W.cell? ⟨g, off + 3, none⟩ = some (.slice A0 k0 z0) ∧ g < W.heap.size) ∧ ExV (fun g => g < B) W (.agg #[.string (toB y0.op), .int .i64 n0, .string (toB nm0), .slice A0 k0 z0]) y0 from fun W hf => ⟨⟨(World.cell?_of_block (a := ⟨g, off, none⟩) (hf.block g hg (by have := h0.le; omega) (.inl hgB))).trans p00, (World.cell?_of_block (a := ⟨g, off + 1, none⟩) (hf.block g hg (by have := h0.le; omega) (.inl hgB))).trans p01, (World.cell?_of_block (a := ⟨g, off + 2, none⟩) (hf.block g hg (by have := h0.le; omega) (.inl hgB))).trans p02, (World.cell?_of_block (a := ⟨g, off + 3, none⟩) (hf.block g hg (by have := h0.le; omega) (.inl hgB))).trans p03, Nat.lt_of_lt_of_le hg hf.size⟩, ExV.keep hf.size (fun k hk hl => ⟨hf.block k hl (by have := h0.le; omega) (.inl hk), hk⟩) y0 hx0⟩)
  have HE0 := Lib.hid E0
  clear hL hx0 E0 p00 p01 p02 p03
  have hBs : B ≤ w.heap.size := by have := hB.size; rw [h0.size] at this; exact this
  have HS := Lib.hid (SE.start (op := op) (nm := nm) (n := n) (A := some ⟨g, off, none⟩) (k := [y0].length) (c := c) hp hBs)
  have HBW := Lib.hid (fun W (hf : PF B b w W) => hB.trans (below_PF hf h0.le hBs))
  have hszO : (toB op).size = 3 := by rw [toB_size, HOp.out]; rfl
  have HCa := Lib.hid (show (⟨#[]⟩ : ByteArray) = toB [] by rfl)
  have HCb := Lib.hid (show (toB op).extract 1 3 = toB [45, 45] by rw [HOp.out]; rfl)
  clear hop hx hp
  go_enter Tryz.func42, Tryz.ntmps42
  go_upto_region 1 with fail
  generalize (w.alloc (.cells #[.pointer (some ⟨b, 0, none⟩)] 80)).alloc (.cells #[.string (toB op), .int .i64 n, .string (toB nm), .slice (some ⟨g, off, none⟩) [y0].length c] 25) = w1 at *
  obtain ⟨c0, c1, c2, c3, c4, l1, l2, l3⟩ := HS.out.look
  go_wp2_with fail
  refine (cnt_any HS.out 1).mono ?_
  rintro e w2 ⟨rfl, hs2⟩
  have HS2 := Lib.hid hs2
  rw [show (([y0].length : Nat) : Int) = 1 from rfl, show ((1 : Int) == 1) = true from rfl] at HS2 ⊢
  rw [Bool.not_true, Bool.or_false] at HS2
  clear hs2 HS c0 c1 c2 c3 c4 l1 l2 l3
  obtain ⟨c0, c1, c2, c3, c4, l1, l2, l3⟩ := HS2.out.look
  go_upto_region 43 with fail
  go_wp2_with fail
  rw [HCa.out]
  refine (ws_any B b (L) ([]) _ _ HS2.out.pr (by simp at hlen ⊢; omega) HS2.out.ne.2.2.1).mono ?_
  rintro e wn0 ⟨rfl, hp4, hf4⟩
  have HT0 := Lib.hid (show SE B b w.heap.size (w.heap.size + 1) op n nm (some ⟨g, off, none⟩) [y0].length c ((L) ++ ([])) bad w wn0 from HS2.out.step hp4 hf4)
  clear hp4 hf4 HS2 c0 c1 c2 c3 c4 l1 l2 l3
  obtain ⟨c0, c1, c2, c3, c4, l1, l2, l3⟩ := HT0.out.look
  go_upto_region 44 with fail
  have q1 := (HX0.out _ HT0.out.pf).1
  obtain ⟨q10, q11, q12, q13, q14⟩ := q1
  go_cut [] (fun wx => SE B b w.heap.size (w.heap.size + 1) op n nm (some ⟨g, off, none⟩) [y0].length c (((L) ++ ([])) ++ t0) (bad || bd0) w wx)
  case first =>
    go_region_law (first
      | (go_simp; go_at_call 87; refine (HE0.out _ _ ((L) ++ ([])) bad (HX0.out _ HT0.out.drew.pf).2 HT0.out.drew.pr (HBW.out _ HT0.out.drew.pf) (by simp at hlen ⊢; omega)).mono ?_; rintro e w4 ⟨rfl, hp4, hf4⟩; have HSn := Lib.hid (HT0.out.drew.step hp4 hf4); clear hp4 hf4))
    all_goals
      go_wp2_with fail
      go_meet
      exact HSn.out
  case rest =>
  have HT1 := Lib.hid hcut
  clear hcut HT0 q10 q11 q12 q13 q14 c0 c1 c2 c3 c4 l1 l2 l3
  obtain ⟨c0, c1, c2, c3, c4, l1, l2, l3⟩ := HT1.out.look
  go_upto_region 45 with fail
  go_wp2_with fail
  rw [HCb.out]
  refine (ws_any B b (((L) ++ ([])) ++ t0) ([45, 45]) _ _ HT1.out.pr (by simp at hlen ⊢; omega) HT1.out.ne.2.2.1).mono ?_
  rintro e wn2 ⟨rfl, hp4, hf4⟩
  have HT2 := Lib.hid (show SE B b w.heap.size (w.heap.size + 1) op n nm (some ⟨g, off, none⟩) [y0].length c ((((L) ++ ([])) ++ t0) ++ ([45, 45])) (bad || bd0) w wn2 from HT1.out.step hp4 hf4)
  clear hp4 hf4 HT1 c0 c1 c2 c3 c4 l1 l2 l3
  go_wp2_with fail
  go_end0
  exact ⟨rfl, (by simpa using  HT2.out.pr), HT2.out.pf⟩


end Go.Proofs.YtiigclkebnmopaaGreatDoor
