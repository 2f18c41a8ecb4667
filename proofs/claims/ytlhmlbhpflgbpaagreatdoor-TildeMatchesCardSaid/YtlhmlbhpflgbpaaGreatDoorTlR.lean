/- TildeMatches, the reference: a copy of the state. -/
import Derived.Test.YtlhmlbhpflgbpaaGreatDoorTlC
import Derived.Test.YtlhmlbhpflgbpaaGreatDoorTailM
namespace Go.Proofs.YtlhmlbhpflgbpaaGreatDoor
open Go.RowKit

def RCloneP (S : ShV) (w : World) (e : Ending) (w' : World) : Prop := ∃ A V : SV, e = .returned (.agg (cellsS S ⟨A, V⟩)) ∧ ShM w' S ⟨A, V⟩ ∧ Below w.heap.size w w'
set_option maxRecDepth 100000 in
set_option maxHeartbeats 3200000 in
theorem rclone_any (S : ShV) (p : ShP) (w : World) (hm : ShM w S p) (hs : Small S) : Calls Tryz.prog 53 #[.agg (cellsS S p)] w (RCloneP S w) := by
  obtain ⟨⟨arA, arn, arc⟩, ⟨vA, vn, vc⟩⟩ := p
  obtain rfl := SL.len hm.ar
  obtain rfl := (VL.at hm.vs).1
  obtain ⟨Q, hQ⟩ : ∃ Q, RCloneP S w = Q := ⟨_, rfl⟩
  rw [hQ]
  have HQ := Lib.hid (fun e w' (h : RCloneP S w e w') => (show Q e w' from hQ ▸ h))
  obtain ⟨bx, hbx⟩ : ∃ bx, bx = w.heap.size := ⟨_, rfl⟩
  have HBXE := Lib.hid hbx
  have HM := Lib.hid hm
  have HS := Lib.hid hs
  clear hQ hbx hm hs
  show Calls _ _ #[.agg #[.string S.nm, .slice arA S.ar.length arc, .slice vA S.vs.length vc, .slice none 0 0, .slice none 0 0, .int .i64 S.op, .int .i64 S.st, .int .i64 S.msk, .string S.dr]] w Q
  go_enter Tryz.func53, Tryz.ntmps53
  go_upto_region 1 with fail
  obtain ⟨W0, hW0⟩ : ∃ W0, W0 = (w.alloc (.cells #[.string S.nm, .slice arA S.ar.length arc, .slice vA S.vs.length vc, .slice none 0 0, .slice none 0 0, .int .i64 S.op, .int .i64 S.st, .int .i64 S.msk, .string S.dr] 28)).alloc (.cells #[.string ⟨#[]⟩, .slice none 0 0, .slice none 0 0, .slice none 0 0, .slice none 0 0, .int .i64 0, .int .i64 0, .int .i64 0, .string ⟨#[]⟩] 28) := ⟨_, rfl⟩
  have HX0 : Hid (Blk W0 bx 28 #[.string S.nm, .slice arA S.ar.length arc, .slice vA S.vs.length vc, .slice none 0 0, .slice none 0 0, .int .i64 S.op, .int .i64 S.st, .int .i64 S.msk, .string S.dr]) := Lib.hid (by rw [hW0]; exact (Blk.new w _ _ HBXE.out.symm).alloc _)
  have HY0 : Hid (Blk W0 (bx + 1) 28 #[.string ⟨#[]⟩, .slice none 0 0, .slice none 0 0, .slice none 0 0, .slice none 0 0, .int .i64 0, .int .i64 0, .int .i64 0, .string ⟨#[]⟩]) := Lib.hid (by rw [hW0]; exact Blk.new _ _ _ (by rw [HBXE.out]; simp))
  have HB0 : Hid (Below w.heap.size w W0) := Lib.hid (by rw [hW0]; exact ((Below.refl _ w).alloc (Nat.le_refl _) _).alloc (by simp) _)
  rw [← HBXE.out, ← hW0]
  clear hW0
  have k1 : W0.cell? ⟨bx, 1, none⟩ = some (.slice arA S.ar.length arc) := HX0.out.cell.1 1
  have k2 : W0.cell? ⟨bx, 2, none⟩ = some (.slice vA S.vs.length vc) := HX0.out.cell.1 2
  have k3 : W0.cell? ⟨bx, 3, none⟩ = some (.slice none 0 0) := HX0.out.cell.1 3
  have k4 : W0.cell? ⟨bx, 4, none⟩ = some (.slice none 0 0) := HX0.out.cell.1 4
  have HD : Hid (Below W0.heap.size W0 W0.drew) := Lib.hid (Below.refl _ _).drew
  have HCA := Lib.hid (clone_any S.ar (.slice arA S.ar.length arc) W0.drew ((HM.out.ar.keep HB0.out).keep HD.out) (by have := HS.out.ar; omega))
  have HCV := Lib.hid (fun W (h : Below w.heap.size w W) => cloneV_any S.vs vA S.vs.length vc W (by have := (HM.out.keep h).vs; exact this) HS.out.vs)
  have hS : W0.drew.cell? ⟨bx, 1, none⟩ = some (.slice arA S.ar.length arc) ∧ W0.drew.cell? ⟨bx, 2, none⟩ = some (.slice vA S.vs.length vc) ∧ W0.drew.cell? ⟨bx, 3, none⟩ = some (.slice none 0 0) ∧ W0.drew.cell? ⟨bx, 4, none⟩ = some (.slice none 0 0) := ⟨k1, k2, k3, k4⟩
  refine wp_region_tailM 13 19 (fun W => W.cell? ⟨bx, 1, none⟩ = some (.slice arA S.ar.length arc) ∧ W.cell? ⟨bx, 2, none⟩ = some (.slice vA S.vs.length vc) ∧ W.cell? ⟨bx, 3, none⟩ = some (.slice none 0 0) ∧ W.cell? ⟨bx, 4, none⟩ = some (.slice none 0 0)) (by kernel_rfl) (by decide) ?_
  refine wpAnyM_take 99 0 (v := ?_) (by kernel_rfl) rfl (by kernel_rfl) (by kernel_rfl) (fun _ _ _ h => h) (Or.inl ⟨by rfl, fun W hW => ?_⟩) (by with_reducible assumption) ?_
  rotate_left
  focus ((try dsimp only at hW); go_simp; try with_reducible rfl)
  refine wpAnyM_take 99 1 (v := ?_) (by kernel_rfl) rfl (by kernel_rfl) (by kernel_rfl) (fun _ _ _ h => h) (Or.inl ⟨by rfl, fun W hW => ?_⟩) (by with_reducible assumption) ?_
  rotate_left
  focus ((try dsimp only at hW); go_simp; try with_reducible rfl)
  refine wpAnyM_take 99 3 (v := ?_) (by kernel_rfl) rfl (by kernel_rfl) (by kernel_rfl) (fun _ _ _ h => h) (Or.inl ⟨by rfl, fun W hW => ?_⟩) (by with_reducible assumption) ?_
  rotate_left
  focus ((try dsimp only at hW); go_simp; try with_reducible rfl)
  refine wpAnyM_take 99 4 (v := ?_) (by kernel_rfl) rfl (by kernel_rfl) (by kernel_rfl) (fun _ _ _ h => h) (Or.inl ⟨by rfl, fun W hW => ?_⟩) (by with_reducible assumption) ?_
  rotate_left
  focus ((try dsimp only at hW); go_simp; try with_reducible rfl)
  refine wpAnyM_take 99 6 (v := ?_) (by kernel_rfl) rfl (by kernel_rfl) (by kernel_rfl) (fun _ _ _ h => h) (Or.inl ⟨by rfl, fun W hW => ?_⟩) (by with_reducible assumption) ?_
  rotate_left
  focus ((try dsimp only at hW); go_simp; try with_reducible rfl)
  refine wpAnyM_take 99 7 (v := ?_) (by kernel_rfl) rfl (by kernel_rfl) (by kernel_rfl) (fun _ _ _ h => h) (Or.inl ⟨by rfl, fun W hW => ?_⟩) (by with_reducible assumption) ?_
  rotate_left
  focus ((try dsimp only at hW); go_simp; try with_reducible rfl)
  refine wpAnyM_take 99 9 (v := ?_) (by kernel_rfl) rfl (by kernel_rfl) (by kernel_rfl) (fun _ _ _ h => h) (Or.inl ⟨by rfl, fun W hW => ?_⟩) (by with_reducible assumption) ?_
  rotate_left
  focus ((try dsimp only at hW); go_simp; try with_reducible rfl)
  refine wpAnyM_take 99 10 (v := ?_) (by kernel_rfl) rfl (by kernel_rfl) (by kernel_rfl) (fun _ _ _ h => h) (Or.inl ⟨by rfl, fun W hW => ?_⟩) (by with_reducible assumption) ?_
  rotate_left
  focus ((try dsimp only at hW); go_simp; try with_reducible rfl)
  simp only [Act.put, List.getElem_toArray, List.getElem_cons_zero, List.getElem_cons_succ, List.setIfInBounds_toArray, List.set_cons_zero, List.set_cons_succ]
  refine wpAnyM_one 2 (by kernel_rfl) (by decide) ?_
  refine wpOp_at rfl rfl (fun K hK => ?_)
  go_simp
  refine HCA.out.mono ?_
  rintro e w1 ⟨A1, c1, rfl, ho1, hb1⟩
  have HB1 := Lib.hid (HD.out.trans hb1)
  have HX1 := Lib.hid (HX0.out.keep HB1.out)
  have HY1 := Lib.hid (HY0.out.keep HB1.out)
  have HA1 := Lib.hid (SL.of_own ho1)
  have hS1 : w1.cell? ⟨bx, 1, none⟩ = some (.slice arA S.ar.length arc) ∧ w1.cell? ⟨bx, 2, none⟩ = some (.slice vA S.vs.length vc) ∧ w1.cell? ⟨bx, 3, none⟩ = some (.slice none 0 0) ∧ w1.cell? ⟨bx, 4, none⟩ = some (.slice none 0 0) := ⟨HX1.out.cell.1 1, HX1.out.cell.1 2, HX1.out.cell.1 3, HX1.out.cell.1 4⟩
  clear hS hb1 ho1 k1 k2 k3 k4
  refine hK.out _ _ ⟨.inr hS1, ?_⟩
  clear hK K
  refine wpAnyM_take 99 12 (v := ?_) (by kernel_rfl) rfl (by kernel_rfl) (by kernel_rfl) (fun _ _ _ h => h) (Or.inl ⟨by rfl, fun W hW => ?_⟩) (by with_reducible assumption) ?_
  rotate_left
  focus ((try dsimp only at hW); go_simp; try with_reducible rfl)
  simp only [Act.put, List.getElem_toArray, List.getElem_cons_zero, List.getElem_cons_succ, List.setIfInBounds_toArray, List.set_cons_zero, List.set_cons_succ]
  refine wpAnyM_one 5 (by kernel_rfl) (by decide) ?_
  refine wpOp_at rfl rfl (fun K hK => ?_)
  go_simp
  refine (HCV.out _ (HB0.out.trans (HB1.out.mono HB0.out.size))).mono ?_
  rintro e w2 ⟨P, A3, c3, rfl, hP, ho3, hb3⟩
  have HB2 := Lib.hid (HB1.out.trans (hb3.mono HB1.out.size))
  have HX2 := Lib.hid (HX1.out.keep hb3)
  have HY2 := Lib.hid (HY1.out.keep hb3)
  have HA2 := Lib.hid (HA1.out.keep hb3)
  have HO2 := Lib.hid ho3
  have HP2 := Lib.hid hP
  have hS2 : w2.cell? ⟨bx, 1, none⟩ = some (.slice arA S.ar.length arc) ∧ w2.cell? ⟨bx, 2, none⟩ = some (.slice vA S.vs.length vc) ∧ w2.cell? ⟨bx, 3, none⟩ = some (.slice none 0 0) ∧ w2.cell? ⟨bx, 4, none⟩ = some (.slice none 0 0) := ⟨HX2.out.cell.1 1, HX2.out.cell.1 2, HX2.out.cell.1 3, HX2.out.cell.1 4⟩
  clear hS1 hb3 ho3 hP
  refine hK.out _ _ ⟨.inr hS2, ?_⟩
  clear hK K
  refine wpAnyM_one 8 (by kernel_rfl) (by decide) ?_
  refine wpOp_at rfl rfl (fun K hK => ?_)
  go_simp
  refine (fclone_any _).mono ?_
  rintro e w3 ⟨rfl, rfl⟩
  refine hK.out _ _ ⟨.inr hS2, ?_⟩
  clear hK K
  refine wpAnyM_one 11 (by kernel_rfl) (by decide) ?_
  refine wpOp_at rfl rfl (fun K hK => ?_)
  go_simp
  refine (tclone_any _).mono ?_
  rintro e w3 ⟨rfl, rfl⟩
  refine hK.out _ _ ⟨.inr hS2, ?_⟩
  clear hK K
  obtain ⟨j1, j2, j3, j4⟩ := hS2
  have fz := HX2.out.cell.2
  refine wpAnyM_one 13 (by kernel_rfl) (by decide) ?_
  refine wpOp_at rfl rfl (fun K hK => ?_)
  go_simp
  refine hK.out _ _ ⟨.inl (by rfl), ?_⟩
  clear hK K
  refine wpAnyM_one 14 (by kernel_rfl) (by decide) ?_
  refine wpOp_at rfl rfl (fun K hK => ?_)
  go_simp
  refine hK.out _ _ ⟨.inl (by rfl), ?_⟩
  clear hK K
  refine wpAnyM_one 15 (by kernel_rfl) (by decide) ?_
  refine wpOp_at rfl rfl (fun K hK => ?_)
  go_simp
  refine hK.out _ _ ⟨.inl (by rfl), ?_⟩
  clear hK K
  refine wpAnyM_one 16 (by kernel_rfl) (by decide) ?_
  refine wpOp_at rfl rfl (fun K hK => ?_)
  go_simp
  refine hK.out _ _ ⟨.inl (by rfl), ?_⟩
  clear hK K
  refine wpAnyM_one 17 (by kernel_rfl) (by decide) ?_
  refine wpOp_at rfl rfl (fun K hK => ?_)
  go_simp
  refine hK.out _ _ ⟨.inl (by rfl), ?_⟩
  clear hK K
  refine wpAnyM_one 18 (by kernel_rfl) (by decide) ?_
  refine wpOp_at rfl rfl (fun K hK => ?_)
  go_simp
  refine hK.out _ _ ⟨.inl (by rfl), ?_⟩
  clear hK K
  refine ⟨by kernel_rfl, ?_⟩
  simp only [List.drop_succ_cons, List.drop_zero]
  refine wpList_plain rfl fun K hK => ?_
  go_simp
  have hbw : w.heap.size ≤ bx := by rw [HBXE.out]; exact Nat.le_refl _
  obtain ⟨W5, hW5⟩ : ∃ W5, W5 = (((w2.setCell ⟨bx, 1, none⟩ (.slice A1 S.ar.length c1)).setCell ⟨bx, 2, none⟩ (.slice A3 P.length c3)).setCell ⟨bx, 3, none⟩ (.slice none 0 0)).setCell ⟨bx, 4, none⟩ (.slice none 0 0) := ⟨_, rfl⟩
  have q1 := HX2.out.set_ 1 (.slice A1 S.ar.length c1)
  have q2 := q1.set_ 2 (.slice A3 P.length c3)
  have q3 := q2.set_ 3 (.slice none 0 0)
  have hx5 : Blk W5 bx 28 #[.string S.nm, .slice A1 S.ar.length c1, .slice A3 P.length c3, .slice none 0 0, .slice none 0 0, .int .i64 S.op, .int .i64 S.st, .int .i64 S.msk, .string S.dr] := by rw [hW5]; exact q3.set_ 4 _
  have hy5 : Blk W5 (bx + 1) 28 #[.string ⟨#[]⟩, .slice none 0 0, .slice none 0 0, .slice none 0 0, .slice none 0 0, .int .i64 0, .int .i64 0, .int .i64 0, .string ⟨#[]⟩] := by rw [hW5]; exact ((((HY2.out.far (by simp) _).far (by simp) _).far (by simp) _).far (by simp) _)
  have ho5 : VO w1.heap.size W5 (.slice A3 P.length c3) P := by rw [hW5]; exact (((HO2.out.far HX2.out (by decide) (by decide) 1 _).far q1 (by decide) (by decide) 2 _).far q2 (by decide) (by decide) 3 _).far q3 (by decide) (by decide) 4 _
  have hk5 : KeepT w2 W5 := by rw [hW5]; exact (((KeepT.setCell HX2.out (by decide) 1 _).trans (KeepT.setCell q1 (by decide) 2 _)).trans (KeepT.setCell q2 (by decide) 3 _)).trans (KeepT.setCell q3 (by decide) 4 _)
  have ha5 := HA2.out.keepT hk5
  have hb5 : Below w.heap.size w W5 := by rw [hW5]; exact ((((HB0.out.trans (HB2.out.mono HB0.out.size)).setCell hbw _).setCell hbw _).setCell hbw _).setCell hbw _
  rw [← hW5]
  clear hW5 q1 q2 q3 hk5 HX2 HY2 HO2 HA2 HB2 HX1 HY1 HA1 HB1 HX0 HY0 HB0 HCA HCV HD j1 j2 j3 j4 fz
  obtain ⟨x0, x1, x2, x3, x4, x5, x6, x7, x8, xf⟩ := hx5.nine
  obtain ⟨y0, y1, y2, y3, y4, y5, y6, y7, y8, yf⟩ := hy5.nine
  have HF := Lib.hid (HQ.out (.returned (.agg #[.string S.nm, .slice A1 S.ar.length c1, .slice A3 P.length c3, .slice none 0 0, .slice none 0 0, .int .i64 S.op, .int .i64 S.st, .int .i64 S.msk, .string S.dr])) (set9 W5 (bx + 1) (.string S.nm) (.slice A1 S.ar.length c1) (.slice A3 P.length c3) (.slice none 0 0) (.slice none 0 0) (.int .i64 S.op) (.int .i64 S.st) (.int .i64 S.msk) (.string S.dr)) ⟨(A1, S.ar.length, c1), (A3, P.length, c3), rfl, ⟨ha5.keepT (set9_keepT hy5 (by decide) _ _ _ _ _ _ _ _ _), by
    have := (set9_vo ho5 hy5 (by decide) (by decide) (.string S.nm) (.slice A1 S.ar.length c1) (.slice A3 P.length c3) (.slice none 0 0) (.slice none 0 0) (.int .i64 S.op) (.int .i64 S.st) (.int .i64 S.msk) (.string S.dr)).vl
    rw [HP2.out] at this
    exact this⟩, set9_below hb5 (Nat.le_succ_of_le hbw) _ _ _ _ _ _ _ _ _⟩)
  have HE := set9_blk hy5 (.string S.nm) (.slice A1 S.ar.length c1) (.slice A3 P.length c3) (.slice none 0 0) (.slice none 0 0) (.int .i64 S.op) (.int .i64 S.st) (.int .i64 S.msk) (.string S.dr)
  obtain ⟨W6, hW6⟩ : ∃ W6, W6 = set9 W5 (bx + 1) (.string S.nm) (.slice A1 S.ar.length c1) (.slice A3 P.length c3) (.slice none 0 0) (.slice none 0 0) (.int .i64 S.op) (.int .i64 S.st) (.int .i64 S.msk) (.string S.dr) := ⟨_, rfl⟩
  rw [← hW6] at HF HE
  obtain ⟨z0, z1, z2, z3, z4, z5, z6, z7, z8, _⟩ := HE.nine
  unfold set9 at hW6
  have HW6 := Lib.hid hW6
  clear hx5 hy5 ho5 ha5 hb5 hW6 HE
  apply hK
  go_wp2_with fail
  rw [← HW6.out]
  exact bodyPost_ret (v := .agg #[.string S.nm, .slice A1 S.ar.length c1, .slice A3 P.length c3, .slice none 0 0, .slice none 0 0, .int .i64 S.op, .int .i64 S.st, .int .i64 S.msk, .string S.dr]) (by simp [results, Tryz.results53, go_sem, z0, z1, z2, z3, z4, z5, z6, z7, z8]) rfl HF.out
end Go.Proofs.YtlhmlbhpflgbpaaGreatDoor
