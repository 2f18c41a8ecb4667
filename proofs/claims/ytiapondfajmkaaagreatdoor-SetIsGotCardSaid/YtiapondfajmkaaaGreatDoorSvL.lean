/- Shell states: a copy of one with its functions (of which there are none). -/
import Derived.Test.YtiapondfajmkaaaGreatDoorSvK
namespace Go.Proofs.YtiapondfajmkaaaGreatDoor
open Go.RowKit

set_option maxRecDepth 100000 in
set_option maxHeartbeats 3200000 in
theorem ownState_any (S : ShV) (p : ShP) (w : World) (hm : ShM w S p) (hs : Small S) : Calls Tryz.prog 20 #[.agg (cellsS S p)] w (CopyP S w) := by
  obtain ⟨⟨arA, arn, arc⟩, ⟨vA, vn, vc⟩⟩ := p
  obtain rfl := SL.len hm.ar
  obtain rfl := (VL.at hm.vs).1
  obtain ⟨Q, hQ⟩ : ∃ Q, CopyP S w = Q := ⟨_, rfl⟩
  rw [hQ]
  have HQ := Lib.hid (fun e w' (h : CopyP S w e w') => (show Q e w' from hQ ▸ h))
  have HM := Lib.hid hm
  obtain ⟨bx, hbx⟩ : ∃ bx, bx = w.heap.size := ⟨_, rfl⟩
  have HBXE := Lib.hid hbx
  clear hQ hbx
  show Calls _ _ #[.agg #[.string S.nm, .slice arA S.ar.length arc, .slice vA S.vs.length vc, .slice none 0 0, .slice none 0 0, .int .i64 S.op, .int .i64 S.st, .int .i64 S.msk, .string S.dr]] w Q
  go_enter Tryz.func20, Tryz.ntmps20
  go_upto_region 1 with fail
  obtain ⟨W0, hW0⟩ : ∃ W0, W0 = (w.alloc (.cells #[.string S.nm, .slice arA S.ar.length arc, .slice vA S.vs.length vc, .slice none 0 0, .slice none 0 0, .int .i64 S.op, .int .i64 S.st, .int .i64 S.msk, .string S.dr] 28)).alloc (.cells #[.string ⟨#[]⟩, .slice none 0 0, .slice none 0 0, .slice none 0 0, .slice none 0 0, .int .i64 0, .int .i64 0, .int .i64 0, .string ⟨#[]⟩] 28) := ⟨_, rfl⟩
  have HX0 : Hid (Blk W0 bx 28 #[.string S.nm, .slice arA S.ar.length arc, .slice vA S.vs.length vc, .slice none 0 0, .slice none 0 0, .int .i64 S.op, .int .i64 S.st, .int .i64 S.msk, .string S.dr]) := Lib.hid (by rw [hW0]; exact (Blk.new w _ _ HBXE.out.symm).alloc _)
  have HY0 : Hid (Blk W0 (bx + 1) 28 #[.string ⟨#[]⟩, .slice none 0 0, .slice none 0 0, .slice none 0 0, .slice none 0 0, .int .i64 0, .int .i64 0, .int .i64 0, .string ⟨#[]⟩]) := Lib.hid (by rw [hW0]; exact Blk.new _ _ _ (by rw [HBXE.out]; simp))
  have HB0 : Hid (Below w.heap.size w W0) := Lib.hid (by rw [hW0]; exact ((Below.refl _ w).alloc (Nat.le_refl _) _).alloc (by simp) _)
  rw [← HBXE.out, ← hW0]
  clear hW0
  have HC : Hid (Calls Tryz.prog 55 #[.agg #[.string S.nm, .slice arA S.ar.length arc, .slice vA S.vs.length vc, .slice none 0 0, .slice none 0 0, .int .i64 S.op, .int .i64 S.st, .int .i64 S.msk, .string S.dr]] W0 (CopyP S W0)) := Lib.hid (copyState_any S ⟨(arA, S.ar.length, arc), (vA, S.vs.length, vc)⟩ W0 (HM.out.keep HB0.out) hs)
  obtain ⟨x0, x1, x2, x3, x4, x5, x6, x7, x8, xf⟩ := HX0.out.nine
  clear hm hs HM
  go_upto_region 2 with (go_at_call 55; refine HC.out.mono ?_; rintro e w1 ⟨⟨A1, a1, c1⟩, ⟨A3, n, c3⟩, P, rfl, hP, ha, ho, hb⟩; have HX1 := Lib.hid (HX0.out.keep hb); have HY1 := Lib.hid (HY0.out.keep hb); obtain ⟨q0, q1, q2, q3, q4, q5, q6, q7, q8, qf⟩ := HX1.out.nine; have HA1 := Lib.hid ha; have HO1 := Lib.hid (ho.base HB0.out.size); have HB1 := Lib.hid (HB0.out.trans (hb.mono HB0.out.size)); have HP := Lib.hid hP; clear ha ho hb hP; unfold cellsS sv; simp only [])
  have hbw : w.heap.size ≤ bx := by rw [HBXE.out]; exact Nat.le_refl _
  obtain ⟨W2, hW2⟩ : ∃ W2, W2 = set9 w1 bx (.string S.nm) (.slice A1 a1 c1) (.slice A3 n c3) (.slice none 0 0) (.slice none 0 0) (.int .i64 S.op) (.int .i64 S.st) (.int .i64 S.msk) (.string S.dr) := ⟨_, rfl⟩
  have hx2 : Blk W2 bx 28 #[.string S.nm, .slice A1 a1 c1, .slice A3 n c3, .slice none 0 0, .slice none 0 0, .int .i64 S.op, .int .i64 S.st, .int .i64 S.msk, .string S.dr] := by rw [hW2]; exact set9_blk HX1.out _ _ _ _ _ _ _ _ _
  have hy2 : Blk W2 (bx + 1) 28 #[.string ⟨#[]⟩, .slice none 0 0, .slice none 0 0, .slice none 0 0, .slice none 0 0, .int .i64 0, .int .i64 0, .int .i64 0, .string ⟨#[]⟩] := by rw [hW2]; exact (set9_heap _ _ _ _ _ _ _ _ _ _ _ _ (by simp)).trans HY1.out
  have ho2 : VO w.heap.size W2 (.slice A3 n c3) P := by rw [hW2]; exact set9_vo HO1.out HX1.out (by decide) (by decide) _ _ _ _ _ _ _ _ _
  have ha2 : SL W2 (.slice A1 a1 c1) S.ar := by rw [hW2]; exact HA1.out.keepT (set9_keepT HX1.out (by decide) _ _ _ _ _ _ _ _ _)
  have hb2 : Below w.heap.size w W2 := by rw [hW2]; exact set9_below HB1.out hbw _ _ _ _ _ _ _ _ _
  unfold set9 at hW2
  rw [← hW2]
  clear hW2 q0 q1 q2 q3 q4 q5 q6 q7 q8 qf x0 x1 x2 x3 x4 x5 x6 x7 x8 xf HX1 HY1 HO1 HA1 HB1 HX0 HY0 HB0 HC
  obtain ⟨x0, x1, x2, x3, x4, x5, x6, x7, x8, xf⟩ := hx2.nine
  obtain ⟨y0, y1, y2, y3, y4, y5, y6, y7, y8, yf⟩ := hy2.nine
  have HF := Lib.hid (HQ.out _ (set9 W2 (bx + 1) (.string S.nm) (.slice A1 a1 c1) (.slice A3 n c3) (.slice none 0 0) (.slice none 0 0) (.int .i64 S.op) (.int .i64 S.st) (.int .i64 S.msk) (.string S.dr)) (show CopyP S w (.returned (.agg #[.string S.nm, .slice A1 a1 c1, .slice A3 n c3, .slice none 0 0, .slice none 0 0, .int .i64 S.op, .int .i64 S.st, .int .i64 S.msk, .string S.dr])) _ from ⟨(A1, a1, c1), (A3, n, c3), P, rfl, HP.out, ha2.keepT (set9_keepT hy2 (by decide) _ _ _ _ _ _ _ _ _), set9_vo ho2 hy2 (by decide) (by decide) _ _ _ _ _ _ _ _ _, set9_below hb2 (Nat.le_succ_of_le hbw) _ _ _ _ _ _ _ _ _⟩))
  have HE := set9_blk hy2 (.string S.nm) (.slice A1 a1 c1) (.slice A3 n c3) (.slice none 0 0) (.slice none 0 0) (.int .i64 S.op) (.int .i64 S.st) (.int .i64 S.msk) (.string S.dr)
  obtain ⟨W6, hW6⟩ : ∃ W6, W6 = set9 W2 (bx + 1) (.string S.nm) (.slice A1 a1 c1) (.slice A3 n c3) (.slice none 0 0) (.slice none 0 0) (.int .i64 S.op) (.int .i64 S.st) (.int .i64 S.msk) (.string S.dr) := ⟨_, rfl⟩
  rw [← hW6] at HF HE
  obtain ⟨z0, z1, z2, z3, z4, z5, z6, z7, z8, _⟩ := HE.nine
  unfold set9 at hW6
  have HW6 := Lib.hid hW6
  clear hx2 hy2 ho2 ha2 hb2 hW6 HE
  go_wp2_with fail
  refine wp_loop_rounds 1 ?_
  rw [rounds_succ]
  go_wp2_with fail
  rw [← HW6.out]
  exact bodyPost_ret (v := .agg #[.string S.nm, .slice A1 a1 c1, .slice A3 n c3, .slice none 0 0, .slice none 0 0, .int .i64 S.op, .int .i64 S.st, .int .i64 S.msk, .string S.dr]) (by simp [results, Tryz.results20, go_sem, z0, z1, z2, z3, z4, z5, z6, z7, z8]) rfl HF.out
end Go.Proofs.YtiapondfajmkaaaGreatDoor
