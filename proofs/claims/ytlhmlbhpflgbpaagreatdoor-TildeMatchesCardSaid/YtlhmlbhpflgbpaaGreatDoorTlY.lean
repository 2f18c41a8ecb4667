/- TildeMatches, the reference: bareShell. -/
import Derived.Test.YtlhmlbhpflgbpaaGreatDoorTlR
import Derived.Test.YtlhmlbhpflgbpaaGreatDoorTlX
namespace Go.Proofs.YtlhmlbhpflgbpaaGreatDoor
open Go.RowKit

def BareP (L : List VarV) (w : World) (e : Ending) (w' : World) : Prop := ∃ r A n c, e = .returned (.pointer (some ⟨r, 0, none⟩)) ∧ w'.cell? ⟨r, 2, none⟩ = some (.slice A n c) ∧ r < w'.heap.size ∧ VL w' (.slice A n c) L ∧ Below w.heap.size w w'
set_option maxRecDepth 100000 in
set_option maxHeartbeats 3200000 in
theorem bare_any (S : ShV) (p : ShP) (w : World) (hm : ShM w S p) (hs : Small S) : Calls Tryz.prog 15 #[.agg (cellsS S p), .pointer none, .agg #[.int .i64 0, .int .i64 0, .slice none 0 0], .int .i64 0, .agg #[.nilFunc, .nilFunc, .nilFunc]] w (BareP S.vs w) := by
  obtain ⟨Q, hQ⟩ : ∃ Q, BareP S.vs w = Q := ⟨_, rfl⟩
  rw [hQ]
  have HQ := Lib.hid (fun e w' (h : BareP S.vs w e w') => (show Q e w' from hQ ▸ h))
  have HRC := Lib.hid (fun W (h : Below w.heap.size w W) => rclone_any S p W (hm.keep h) hs)
  obtain ⟨⟨arA, arn, arc⟩, ⟨vA, vn, vc⟩⟩ := p
  obtain rfl := SL.len hm.ar
  obtain rfl := (VL.at hm.vs).1
  obtain ⟨bx, hbx⟩ : ∃ bx, bx = w.heap.size := ⟨_, rfl⟩
  have HBXE := Lib.hid hbx
  clear hQ hbx hm hs
  show Calls _ _ #[.agg #[.string S.nm, .slice arA S.ar.length arc, .slice vA S.vs.length vc, .slice none 0 0, .slice none 0 0, .int .i64 S.op, .int .i64 S.st, .int .i64 S.msk, .string S.dr], .pointer none, .agg #[.int .i64 0, .int .i64 0, .slice none 0 0], .int .i64 0, .agg #[.nilFunc, .nilFunc, .nilFunc]] w Q
  have HRC : Hid (∀ W, Below w.heap.size w W → Calls Tryz.prog 53 #[.agg #[.string S.nm, .slice arA S.ar.length arc, .slice vA S.vs.length vc, .slice none 0 0, .slice none 0 0, .int .i64 S.op, .int .i64 S.st, .int .i64 S.msk, .string S.dr]] W (RCloneP S W)) := HRC
  go_enter Tryz.func15, Tryz.ntmps15
  go_upto_region 1 with fail
  obtain ⟨W0, hW0⟩ : ∃ W0, W0 = ((w.alloc (.cells #[.string S.nm, .slice arA S.ar.length arc, .slice vA S.vs.length vc, .slice none 0 0, .slice none 0 0, .int .i64 S.op, .int .i64 S.st, .int .i64 S.msk, .string S.dr] 28)).alloc (.cells #[.int .i64 0, .int .i64 0, .slice none 0 0] 56)).alloc (.cells #[.nilFunc, .nilFunc, .nilFunc] 61) := ⟨_, rfl⟩
  have HX0 : Hid (Blk W0 bx 28 #[.string S.nm, .slice arA S.ar.length arc, .slice vA S.vs.length vc, .slice none 0 0, .slice none 0 0, .int .i64 S.op, .int .i64 S.st, .int .i64 S.msk, .string S.dr]) := Lib.hid (by rw [hW0]; exact ((Blk.new w _ _ HBXE.out.symm).alloc _).alloc _)
  have HY0 : Hid (Blk W0 (bx + 1) 56 #[.int .i64 0, .int .i64 0, .slice none 0 0]) := Lib.hid (by rw [hW0]; exact (Blk.new _ _ _ (by rw [HBXE.out]; simp)).alloc _)
  have HZ0 : Hid (Blk W0 (bx + 2) 61 #[.nilFunc, .nilFunc, .nilFunc]) := Lib.hid (by rw [hW0]; exact Blk.new _ _ _ (by rw [HBXE.out]; simp))
  have HB0 : Hid (Below w.heap.size w W0) := Lib.hid (by rw [hW0]; exact (((Below.refl _ w).alloc (Nat.le_refl _) _).alloc (by simp) _).alloc (by simp; try omega) _)
  rw [← HBXE.out, ← hW0]
  clear hW0
  have HD : Hid (Below W0.heap.size W0 W0.drew) := Lib.hid (Below.refl _ _).drew
  have HBD := Lib.hid (HB0.out.trans (HD.out.mono HB0.out.size))
  have HXD := Lib.hid (HX0.out.keep HD.out)
  have HYD := Lib.hid (HY0.out.keep HD.out)
  have HZD := Lib.hid (HZ0.out.keep HD.out)
  clear HX0 HY0 HZ0 HB0 HD
  have hS : W0.drew.cell? ⟨bx, 0, none⟩ = some (.string S.nm) ∧ W0.drew.cell? ⟨bx, 1, none⟩ = some (.slice arA S.ar.length arc) ∧ W0.drew.cell? ⟨bx, 2, none⟩ = some (.slice vA S.vs.length vc) ∧ W0.drew.cell? ⟨bx, 3, none⟩ = some (.slice none 0 0) ∧ W0.drew.cell? ⟨bx, 4, none⟩ = some (.slice none 0 0) ∧ W0.drew.cell? ⟨bx, 5, none⟩ = some (.int .i64 S.op) ∧ W0.drew.cell? ⟨bx, 6, none⟩ = some (.int .i64 S.st) ∧ W0.drew.cell? ⟨bx, 7, none⟩ = some (.int .i64 S.msk) ∧ W0.drew.cell? ⟨bx, 8, none⟩ = some (.string S.dr) ∧ W0.drew.cell? ⟨bx + 1, 0, none⟩ = some (.int .i64 0) ∧ W0.drew.cell? ⟨bx + 1, 1, none⟩ = some (.int .i64 0) ∧ W0.drew.cell? ⟨bx + 1, 2, none⟩ = some (.slice none 0 0) ∧ W0.drew.cell? ⟨bx + 2, 1, none⟩ = some (.nilFunc) ∧ W0.drew.cell? ⟨bx + 2, 2, none⟩ = some (.nilFunc) := ⟨HXD.out.cell.1 0, HXD.out.cell.1 1, HXD.out.cell.1 2, HXD.out.cell.1 3, HXD.out.cell.1 4, HXD.out.cell.1 5, HXD.out.cell.1 6, HXD.out.cell.1 7, HXD.out.cell.1 8, HYD.out.cell.1 0, HYD.out.cell.1 1, HYD.out.cell.1 2, HZD.out.cell.1 1, HZD.out.cell.1 2⟩
  refine wp_region_tail 13 (fun W => W.cell? ⟨bx, 0, none⟩ = some (.string S.nm) ∧ W.cell? ⟨bx, 1, none⟩ = some (.slice arA S.ar.length arc) ∧ W.cell? ⟨bx, 2, none⟩ = some (.slice vA S.vs.length vc) ∧ W.cell? ⟨bx, 3, none⟩ = some (.slice none 0 0) ∧ W.cell? ⟨bx, 4, none⟩ = some (.slice none 0 0) ∧ W.cell? ⟨bx, 5, none⟩ = some (.int .i64 S.op) ∧ W.cell? ⟨bx, 6, none⟩ = some (.int .i64 S.st) ∧ W.cell? ⟨bx, 7, none⟩ = some (.int .i64 S.msk) ∧ W.cell? ⟨bx, 8, none⟩ = some (.string S.dr) ∧ W.cell? ⟨bx + 1, 0, none⟩ = some (.int .i64 0) ∧ W.cell? ⟨bx + 1, 1, none⟩ = some (.int .i64 0) ∧ W.cell? ⟨bx + 1, 2, none⟩ = some (.slice none 0 0) ∧ W.cell? ⟨bx + 2, 1, none⟩ = some (.nilFunc) ∧ W.cell? ⟨bx + 2, 2, none⟩ = some (.nilFunc)) (by kernel_rfl) (by decide) ?_
  generalize W0.drew = W1 at *
  refine wpAnyT_take 99 0 (v := ?_) (by kernel_rfl) rfl (by kernel_rfl) (fun _ _ _ h => h) (Or.inl ⟨by rfl, fun W hW => ?_⟩) (by with_reducible assumption) ?_
  rotate_left
  focus ((try dsimp only at hW); go_simp; try with_reducible rfl)
  refine wpAnyT_take 99 2 (v := ?_) (by kernel_rfl) rfl (by kernel_rfl) (fun _ _ _ h => h) (Or.inl ⟨by rfl, fun W hW => ?_⟩) (by with_reducible assumption) ?_
  rotate_left
  focus ((try dsimp only at hW); go_simp; try with_reducible rfl)
  refine wpAnyT_take 99 3 (v := ?_) (by kernel_rfl) rfl (by kernel_rfl) (fun _ _ _ h => h) (Or.inl ⟨by rfl, fun W hW => ?_⟩) (by with_reducible assumption) ?_
  rotate_left
  focus ((try dsimp only at hW); go_simp; try with_reducible rfl)
  refine wpAnyT_take 99 4 (v := ?_) (by kernel_rfl) rfl (by kernel_rfl) (fun _ _ _ h => h) (Or.inl ⟨by rfl, fun W hW => ?_⟩) (by with_reducible assumption) ?_
  rotate_left
  focus ((try dsimp only at hW); go_simp; try with_reducible rfl)
  refine wpAnyT_take 99 5 (v := ?_) (by kernel_rfl) rfl (by kernel_rfl) (fun _ _ _ h => h) (Or.inl ⟨by rfl, fun W hW => ?_⟩) (by with_reducible assumption) ?_
  rotate_left
  focus ((try dsimp only at hW); go_simp; try with_reducible rfl)
  refine wpAnyT_take 99 6 (v := ?_) (by kernel_rfl) rfl (by kernel_rfl) (fun _ _ _ h => h) (Or.inl ⟨by rfl, fun W hW => ?_⟩) (by with_reducible assumption) ?_
  rotate_left
  focus ((try dsimp only at hW); go_simp; try with_reducible rfl)
  refine wpAnyT_take 99 7 (v := ?_) (by kernel_rfl) rfl (by kernel_rfl) (fun _ _ _ h => h) (Or.inl ⟨by rfl, fun W hW => ?_⟩) (by with_reducible assumption) ?_
  rotate_left
  focus ((try dsimp only at hW); go_simp; try with_reducible rfl)
  refine wpAnyT_take 99 8 (v := ?_) (by kernel_rfl) rfl (by kernel_rfl) (fun _ _ _ h => h) (Or.inl ⟨by rfl, fun W hW => ?_⟩) (by with_reducible assumption) ?_
  rotate_left
  focus ((try dsimp only at hW); go_simp; try with_reducible rfl)
  refine wpAnyT_take 99 9 (v := ?_) (by kernel_rfl) rfl (by kernel_rfl) (fun _ _ _ h => h) (Or.inl ⟨by rfl, fun W hW => ?_⟩) (by with_reducible assumption) ?_
  rotate_left
  focus ((try dsimp only at hW); go_simp; try with_reducible rfl)
  simp only [Act.put, List.getElem_toArray, List.getElem_cons_zero, List.getElem_cons_succ, List.setIfInBounds_toArray, List.set_cons_zero, List.set_cons_succ]
  refine wpAnyT_two 1 10 (by kernel_rfl) (by decide) (by decide) ?_ ?_
  · refine wpOp_at rfl rfl (fun K hK => ?_)
    go_simp
    refine (HRC.out _ HBD.out).mono ?_
    rintro e w1 ⟨⟨a1, a2, a3⟩, ⟨v1, v2, v3⟩, rfl, hm1, hb1⟩
    dsimp only [cellsS, sv]
    have HB1 := Lib.hid ((HBD.out).trans (hb1.mono (HBD.out).size))
    have HX1 := Lib.hid (HXD.out.keep hb1)
    have HY1 := Lib.hid (HYD.out.keep hb1)
    have HZ1 := Lib.hid (HZD.out.keep hb1)
    have HM1 : Hid (VL w1 (.slice v1 v2 v3) S.vs) := Lib.hid hm1.vs
    clear hm1 hb1
    refine hK.out _ _ ⟨⟨(HX1.out).cell.1 0, (HX1.out).cell.1 1, (HX1.out).cell.1 2, (HX1.out).cell.1 3, (HX1.out).cell.1 4, (HX1.out).cell.1 5, (HX1.out).cell.1 6, (HX1.out).cell.1 7, (HX1.out).cell.1 8, (HY1.out).cell.1 0, (HY1.out).cell.1 1, (HY1.out).cell.1 2, (HZ1.out).cell.1 1, (HZ1.out).cell.1 2⟩, ?_⟩
    clear hK K
    refine wpAnyT_one 10 (by kernel_rfl) (by decide) ?_
    refine wpOp_at rfl rfl (fun K hK => ?_)
    go_simp
    refine hK.out _ _ ⟨⟨(HX1.out.alloc _).cell.1 0, (HX1.out.alloc _).cell.1 1, (HX1.out.alloc _).cell.1 2, (HX1.out.alloc _).cell.1 3, (HX1.out.alloc _).cell.1 4, (HX1.out.alloc _).cell.1 5, (HX1.out.alloc _).cell.1 6, (HX1.out.alloc _).cell.1 7, (HX1.out.alloc _).cell.1 8, (HY1.out.alloc _).cell.1 0, (HY1.out.alloc _).cell.1 1, (HY1.out.alloc _).cell.1 2, (HZ1.out.alloc _).cell.1 1, (HZ1.out.alloc _).cell.1 2⟩, ?_⟩
    clear hK K
    refine wpAnyT_one 11 (by kernel_rfl) (by decide) ?_
    refine wpOp_at rfl rfl (fun K hK => ?_)
    go_simp
    refine hK.out _ _ ⟨⟨(HX1.out.alloc _).cell.1 0, (HX1.out.alloc _).cell.1 1, (HX1.out.alloc _).cell.1 2, (HX1.out.alloc _).cell.1 3, (HX1.out.alloc _).cell.1 4, (HX1.out.alloc _).cell.1 5, (HX1.out.alloc _).cell.1 6, (HX1.out.alloc _).cell.1 7, (HX1.out.alloc _).cell.1 8, (HY1.out.alloc _).cell.1 0, (HY1.out.alloc _).cell.1 1, (HY1.out.alloc _).cell.1 2, (HZ1.out.alloc _).cell.1 1, (HZ1.out.alloc _).cell.1 2⟩, ?_⟩
    clear hK K
    refine wpAnyT_one 12 (by kernel_rfl) (by decide) ?_
    refine wpOp_at rfl rfl (fun K hK => ?_)
    go_simp
    refine hK.out _ _ ⟨⟨((HX1.out.alloc _).alloc _).cell.1 0, ((HX1.out.alloc _).alloc _).cell.1 1, ((HX1.out.alloc _).alloc _).cell.1 2, ((HX1.out.alloc _).alloc _).cell.1 3, ((HX1.out.alloc _).alloc _).cell.1 4, ((HX1.out.alloc _).alloc _).cell.1 5, ((HX1.out.alloc _).alloc _).cell.1 6, ((HX1.out.alloc _).alloc _).cell.1 7, ((HX1.out.alloc _).alloc _).cell.1 8, ((HY1.out.alloc _).alloc _).cell.1 0, ((HY1.out.alloc _).alloc _).cell.1 1, ((HY1.out.alloc _).alloc _).cell.1 2, ((HZ1.out.alloc _).alloc _).cell.1 1, ((HZ1.out.alloc _).alloc _).cell.1 2⟩, ?_⟩
    clear hK K
    have HF := Lib.hid (HQ.out (.returned (.pointer (some ⟨(w1.alloc (.cells #[.pointer none, .int .i64 0, .int .i64 0, .slice none 0 0, .nilFunc, .nilFunc, .nilFunc, .int .i64 0, .int .i64 0] 114)).heap.size, 0, none⟩))) ((w1.alloc (.cells #[.pointer none, .int .i64 0, .int .i64 0, .slice none 0 0, .nilFunc, .nilFunc, .nilFunc, .int .i64 0, .int .i64 0] 114)).alloc (.cells #[.string S.nm, .slice a1 a2 a3, .slice v1 v2 v3, .slice none 0 0, .slice none 0 0, .int .i64 S.op, .int .i64 S.st, .int .i64 S.msk, .string S.dr, .pointer (some ⟨w1.heap.size, 0, none⟩), .int .i64 0, .pointer none, .pointer none, .pointer none, .pointer none, .pointer none, .pointer none, .pointer none, .pointer none, .pointer none, .pointer none, .slice none 0 0, .int .i64 0, .int .i64 0, .slice none 0 0, .int .i64 0, .bool false, .bool false, .int .i64 0, .bool false, .bool false] 119)) ⟨_, v1, v2, v3, rfl, sv_box_cell _ _ _ 2, by simp, (HM1.out.keep (Below.refl _ _ |>.alloc (Nat.le_refl _) _)).keep ((Below.refl _ _).alloc (Nat.le_refl _) _), (HB1.out.alloc HB1.out.size _).alloc (Nat.le_trans HB1.out.size (by simp)) _⟩)
    rw [show (w1.alloc (.cells #[.pointer none, .int .i64 0, .int .i64 0, .slice none 0 0, .nilFunc, .nilFunc, .nilFunc, .int .i64 0, .int .i64 0] 114)).heap.size = w1.heap.size + 1 by simp] at HF
    refine ⟨by kernel_rfl, ?_⟩
    simp only [List.drop_succ_cons, List.drop_zero]
    refine wpList_plain rfl fun K hK => ?_
    go_simp
    apply hK
    go_wp2_with fail
    first | exact HF.out | exact bodyPost_ret (v := .pointer (some ⟨_, 0, none⟩)) (by simp [results, Tryz.results15, go_sem]) rfl HF.out
  · refine wpOp_at rfl rfl (fun K hK => ?_)
    go_simp
    refine hK.out _ _ ⟨⟨(HXD.out.alloc _).cell.1 0, (HXD.out.alloc _).cell.1 1, (HXD.out.alloc _).cell.1 2, (HXD.out.alloc _).cell.1 3, (HXD.out.alloc _).cell.1 4, (HXD.out.alloc _).cell.1 5, (HXD.out.alloc _).cell.1 6, (HXD.out.alloc _).cell.1 7, (HXD.out.alloc _).cell.1 8, (HYD.out.alloc _).cell.1 0, (HYD.out.alloc _).cell.1 1, (HYD.out.alloc _).cell.1 2, (HZD.out.alloc _).cell.1 1, (HZD.out.alloc _).cell.1 2⟩, ?_⟩
    clear hK K
    refine wpAnyT_one 1 (by kernel_rfl) (by decide) ?_
    refine wpOp_at rfl rfl (fun K hK => ?_)
    go_simp
    refine (HRC.out _ (HBD.out.alloc HBD.out.size _)).mono ?_
    rintro e w1 ⟨⟨a1, a2, a3⟩, ⟨v1, v2, v3⟩, rfl, hm1, hb1⟩
    dsimp only [cellsS, sv]
    have HB1 := Lib.hid (((HBD.out.alloc HBD.out.size _)).trans (hb1.mono ((HBD.out.alloc HBD.out.size _)).size))
    have HX1 := Lib.hid ((HXD.out.alloc _).keep hb1)
    have HY1 := Lib.hid ((HYD.out.alloc _).keep hb1)
    have HZ1 := Lib.hid ((HZD.out.alloc _).keep hb1)
    have HM1 : Hid (VL w1 (.slice v1 v2 v3) S.vs) := Lib.hid hm1.vs
    clear hm1 hb1
    refine hK.out _ _ ⟨⟨(HX1.out).cell.1 0, (HX1.out).cell.1 1, (HX1.out).cell.1 2, (HX1.out).cell.1 3, (HX1.out).cell.1 4, (HX1.out).cell.1 5, (HX1.out).cell.1 6, (HX1.out).cell.1 7, (HX1.out).cell.1 8, (HY1.out).cell.1 0, (HY1.out).cell.1 1, (HY1.out).cell.1 2, (HZ1.out).cell.1 1, (HZ1.out).cell.1 2⟩, ?_⟩
    clear hK K
    refine wpAnyT_one 11 (by kernel_rfl) (by decide) ?_
    refine wpOp_at rfl rfl (fun K hK => ?_)
    go_simp
    refine hK.out _ _ ⟨⟨(HX1.out).cell.1 0, (HX1.out).cell.1 1, (HX1.out).cell.1 2, (HX1.out).cell.1 3, (HX1.out).cell.1 4, (HX1.out).cell.1 5, (HX1.out).cell.1 6, (HX1.out).cell.1 7, (HX1.out).cell.1 8, (HY1.out).cell.1 0, (HY1.out).cell.1 1, (HY1.out).cell.1 2, (HZ1.out).cell.1 1, (HZ1.out).cell.1 2⟩, ?_⟩
    clear hK K
    refine wpAnyT_one 12 (by kernel_rfl) (by decide) ?_
    refine wpOp_at rfl rfl (fun K hK => ?_)
    go_simp
    refine hK.out _ _ ⟨⟨(HX1.out.alloc _).cell.1 0, (HX1.out.alloc _).cell.1 1, (HX1.out.alloc _).cell.1 2, (HX1.out.alloc _).cell.1 3, (HX1.out.alloc _).cell.1 4, (HX1.out.alloc _).cell.1 5, (HX1.out.alloc _).cell.1 6, (HX1.out.alloc _).cell.1 7, (HX1.out.alloc _).cell.1 8, (HY1.out.alloc _).cell.1 0, (HY1.out.alloc _).cell.1 1, (HY1.out.alloc _).cell.1 2, (HZ1.out.alloc _).cell.1 1, (HZ1.out.alloc _).cell.1 2⟩, ?_⟩
    clear hK K
    have HF := Lib.hid (HQ.out (.returned (.pointer (some ⟨w1.heap.size, 0, none⟩))) (w1.alloc (.cells #[.string S.nm, .slice a1 a2 a3, .slice v1 v2 v3, .slice none 0 0, .slice none 0 0, .int .i64 S.op, .int .i64 S.st, .int .i64 S.msk, .string S.dr, .pointer (some ⟨W1.heap.size, 0, none⟩), .int .i64 0, .pointer none, .pointer none, .pointer none, .pointer none, .pointer none, .pointer none, .pointer none, .pointer none, .pointer none, .pointer none, .slice none 0 0, .int .i64 0, .int .i64 0, .slice none 0 0, .int .i64 0, .bool false, .bool false, .int .i64 0, .bool false, .bool false] 119)) ⟨_, v1, v2, v3, rfl, sv_box_cell _ _ _ 2, by simp, HM1.out.keep ((Below.refl _ _).alloc (Nat.le_refl _) _), HB1.out.alloc HB1.out.size _⟩)
    refine ⟨by kernel_rfl, ?_⟩
    simp only [List.drop_succ_cons, List.drop_zero]
    refine wpList_plain rfl fun K hK => ?_
    go_simp
    apply hK
    go_wp2_with fail
    first | exact HF.out | exact bodyPost_ret (v := .pointer (some ⟨_, 0, none⟩)) (by simp [results, Tryz.results15, go_sem]) rfl HF.out
end Go.Proofs.YtlhmlbhpflgbpaaGreatDoor
