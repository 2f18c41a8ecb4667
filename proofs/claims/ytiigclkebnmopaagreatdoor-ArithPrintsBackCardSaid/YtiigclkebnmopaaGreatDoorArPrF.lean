/- Arithmetic expressions: the program's printer: elements. -/
import Derived.Test.YtiigclkebnmopaaGreatDoorArPrE
namespace Go.Proofs.YtiigclkebnmopaaGreatDoor
open Go.RowKit Go.Shelf

set_option maxRecDepth 100000 in
set_option maxHeartbeats 6400000 in
theorem pe_e (w0 : World) (B b : Nat) (h0 : W0 w0 B b) (n : Int) (nm : List UInt8) (y0 : Ex) (t0 : List UInt8) (bd0 : Bool) (E0 : PE w0 B b y0 t0 bd0) : PE w0 B b (.mk [101] n nm [y0]) (nm ++ 91 :: (t0 ++ [93])) bd0 := by
  intro v w L bad hx hp hB hlen
  obtain ⟨op, hop⟩ : ∃ op, ([101] : List UInt8) = op := ⟨_, rfl⟩
  rw [hop] at hx
  obtain ⟨A, c, rfl, _, hA⟩ := hx.parts
  have HOp := Lib.hid hop.symm
  have f0 : ((toB op).toList == [110]) = false := by rw [toB_toList, HOp.out]; rfl
  have f1 : ((toB op).toList == [118]) = false := by rw [toB_toList, HOp.out]; rfl
  have f2 : ((toB op).toList == [101]) = true := by rw [toB_toList, HOp.out]; rfl
  obtain ⟨g, off, rfl, hgB, hg, hL⟩ := hA (by simp)
  obtain ⟨v0, v1, v2, v3, p00, p01, p02, p03, hx0⟩ := ex0 hL
  obtain ⟨n0, A0, k0, z0, nm0, hv, hq⟩ := hx0.form
  simp only [Value.agg.injEq, Array.mk.injEq, List.cons.injEq, and_true] at hv
  clear hq
  obtain ⟨rfl, rfl, rfl, rfl⟩ := hv
  have HX0 := Lib.hid (show ∀ W, PF B b w W → (W.cell? ⟨g, off, none⟩ = some (.string (toB y0.op)) ∧ W.cell? ⟨g, off + 1, none⟩ = some (.int .i64 n0) ∧ W.cell? ⟨g, off + 2, none⟩ = some (.string (toB nm0)) ∧ W.cell? ⟨g, off + 3, none⟩ = some (.slice A0 k0 z0) ∧ g < W.heap.size) ∧ ExV (fun g => g < B) W (.agg #[.string (toB y0.op), .int .i64 n0, .string (toB nm0), .slice A0 k0 z0]) y0 from fun W hf => ⟨⟨(World.cell?_of_block (a := ⟨g, off, none⟩) (hf.block g hg (by have := h0.le; omega) (.inl hgB))).trans p00, (World.cell?_of_block (a := ⟨g, off + 1, none⟩) (hf.block g hg (by have := h0.le; omega) (.inl hgB))).trans p01, (World.cell?_of_block (a := ⟨g, off + 2, none⟩) (hf.block g hg (by have := h0.le; omega) (.inl hgB))).trans p02, (World.cell?_of_block (a := ⟨g, off + 3, none⟩) (hf.block g hg (by have := h0.le; omega) (.inl hgB))).trans p03, Nat.lt_of_lt_of_le hg hf.size⟩, ExV.keep hf.size (fun k hk hl => ⟨hf.block k hl (by have := h0.le; omega) (.inl hk), hk⟩) y0 hx0⟩)
  have HE0 := Lib.hid E0
  clear hL hx0 E0 p00 p01 p02 p03
  have hBs : B ≤ w.heap.size := by have := hB.size; rw [h0.size] at this; exact this
  have HS := Lib.hid (SE.start (op := op) (nm := nm) (n := n) (A := some ⟨g, off, none⟩) (k := [y0].length) (c := c) hp hBs)
  have HBW := Lib.hid (fun W (hf : PF B b w W) => hB.trans (below_PF hf h0.le hBs))
  have hsz := toB_size nm
  have hk1 : ¬ 9223372036854775807 < nm.length + 1 := by simp at hlen; omega
  have HC := Lib.hid (show toB nm ++ (⟨#[91]⟩ : ByteArray) = toB (nm ++ [91]) by show toB nm ++ toB [91] = _; rw [toB_app])
  clear hop hx hp
  go_enter Tryz.func42, Tryz.ntmps42
  go_upto_region 1 with fail
  generalize (w.alloc (.cells #[.pointer (some ⟨b, 0, none⟩)] 80)).alloc (.cells #[.string (toB op), .int .i64 n, .string (toB nm), .slice (some ⟨g, off, none⟩) [y0].length c] 25) = w1 at *
  obtain ⟨c0, c1, c2, c3, c4, l1, l2, l3⟩ := HS.out.look
  go_wp2_with fail
  refine (cnt_any HS.out 1).mono ?_
  rintro e w2 ⟨rfl, hs2⟩
  have HS2 := Lib.hid hs2
  rw [show (([y0].length : Nat) : Int) = 1 from rfl, show ((1 : Int) == 1) = true from rfl] at HS2 ⊢
  rw [Bool.not_true, Bool.or_false] at HS2
  clear hs2 HS c0 c1 c2 c3 c4 l1 l2 l3
  obtain ⟨c0, c1, c2, c3, c4, l1, l2, l3⟩ := HS2.out.look
  go_upto_region 14 with fail
  go_cut [] (fun wx => SE B b w.heap.size (w.heap.size + 1) op n nm (some ⟨g, off, none⟩) [y0].length c ((L) ++ (nm ++ [91])) bad w wx)
  case first =>
    go_region_law (first
      | (go_simp; go_at_call 85; rw [HC.out]; refine (ws_any B b (L) (nm ++ [91]) _ _ HS2.out.drew.pr (by simp at hlen ⊢; omega) HS2.out.drew.ne.2.2.1).mono ?_; rintro e w4 ⟨rfl, hp4, hf4⟩; have HSn := Lib.hid (HS2.out.drew.step hp4 hf4); clear hp4 hf4))
    all_goals
      go_wp2_with fail
      go_meet
      exact HSn.out
  case rest =>
  have HT0 := Lib.hid hcut
  clear hcut HS2 c0 c1 c2 c3 c4 l1 l2 l3
  obtain ⟨c0, c1, c2, c3, c4, l1, l2, l3⟩ := HT0.out.look
  go_upto_region 15 with fail
  have q1 := (HX0.out _ HT0.out.pf).1
  obtain ⟨q10, q11, q12, q13, q14⟩ := q1
  go_cut [] (fun wx => SE B b w.heap.size (w.heap.size + 1) op n nm (some ⟨g, off, none⟩) [y0].length c (((L) ++ (nm ++ [91])) ++ t0) (bad || bd0) w wx)
  case first =>
    go_region_law (first
      | (go_simp; go_at_call 42; refine (HE0.out _ _ ((L) ++ (nm ++ [91])) bad (HX0.out _ HT0.out.drew.pf).2 HT0.out.drew.pr (HBW.out _ HT0.out.drew.pf) (by simp at hlen ⊢; omega)).mono ?_; rintro e w4 ⟨rfl, hp4, hf4⟩; have HSn := Lib.hid (HT0.out.drew.step hp4 hf4); clear hp4 hf4))
    all_goals
      go_wp2_with fail
      go_meet
      exact HSn.out
  case rest =>
  have HT1 := Lib.hid hcut
  clear hcut HT0 q10 q11 q12 q13 q14 c0 c1 c2 c3 c4 l1 l2 l3
  obtain ⟨c0, c1, c2, c3, c4, l1, l2, l3⟩ := HT1.out.look
  go_upto_region 16 with fail
  go_wp2_with fail
  rw [show (⟨#[93]⟩ : ByteArray) = toB [93] from rfl]
  refine (ws_any B b (((L) ++ (nm ++ [91])) ++ t0) ([93]) _ _ HT1.out.pr (by simp at hlen ⊢; omega) HT1.out.ne.2.2.1).mono ?_
  rintro e wn2 ⟨rfl, hp4, hf4⟩
  have HT2 := Lib.hid (show SE B b w.heap.size (w.heap.size + 1) op n nm (some ⟨g, off, none⟩) [y0].length c ((((L) ++ (nm ++ [91])) ++ t0) ++ ([93])) (bad || bd0) w wn2 from HT1.out.step hp4 hf4)
  clear hp4 hf4 HT1 c0 c1 c2 c3 c4 l1 l2 l3
  go_wp2_with fail
  exact bodyPost_ret (results_none rfl _ _ _) rfl ⟨rfl, (by simpa using  HT2.out.pr), HT2.out.pf⟩

end Go.Proofs.YtiigclkebnmopaaGreatDoor
