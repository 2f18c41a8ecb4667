/- Decimals in memory: the product with a scale. -/
import Derived.Test.YthodlgjfmddemaaGreatDoorRkZ
namespace Go.Proofs.YthodlgjfmddemaaGreatDoor.Rk
open Go.RowKit

set_option maxRecDepth 100000 in
set_option maxHeartbeats 6400000 in
theorem dtimes_any (u v : Value) (d e : Dec) (k : Nat) (w : World) (hu : DecV w u d) (hv : DecV w v e) (hd : nl d.n ≤ 1000) (he : nl e.n ≤ 1000) (hds : d.scale ≤ 1000) (hes : e.scale ≤ 1000) (hk : k ≤ 1000) :
    Calls Tryz.prog 17 #[u, v, .int .i64 (k : Int)] w (RetD (d.times e k) w) := by
  obtain ⟨nu, rfl, hnu⟩ := hu
  obtain ⟨nv, rfl, hnv⟩ := hv
  obtain ⟨A, c, rfl, _, _⟩ := RL.form hnu
  obtain ⟨A2, c2, rfl, _, _⟩ := RL.form hnv
  obtain ⟨D, hD⟩ : ∃ D, D = d.times e k := ⟨_, rfl⟩
  rw [← hD]
  have hX := Bx.new w d e _ _ hnu hnv
  obtain ⟨w1, hw1⟩ : ∃ w1, w1 = ((w.alloc (.cells #[.bool d.below, .slice A (nl d.n) c, .int .i64 (d.scale : Int)] 48)).alloc (.cells #[.bool e.below, .slice A2 (nl e.n) c2, .int .i64 (e.scale : Int)] 48)).alloc (.cells #[.bool false, .slice none 0 0, .int .i64 0] 48) := ⟨_, rfl⟩
  rw [← hw1] at hX
  obtain ⟨g, hg⟩ : ∃ g, g = w.heap.size := ⟨_, rfl⟩
  have HBn := Lib.hid (show w.heap.size ≤ g + 1 + 1 by omega)
  have HG := Lib.hid hg
  have HW1 := Lib.hid hw1
  have HX := Lib.hid hX
  have HD := Lib.hid hD
  clear hX hw1 hg hnu hnv hD
  obtain ⟨s, hs⟩ : ∃ s, s = d.scale + e.scale := ⟨_, rfl⟩
  have e1 : IntKind.i64.wrap ((d.scale : Int) + (e.scale : Int)) = (s : Int) := by rw [hs]; exact i64_sum _ _ (by omega)
  obtain ⟨t, ht⟩ : ∃ t, t = max k (max d.scale e.scale) := ⟨_, rfl⟩
  obtain ⟨q, hq⟩ : ∃ q, q = min s t := ⟨_, rfl⟩
  have HMx := Lib.hid (show (if (if k < d.scale then (d.scale : Int) else (k : Int)) < (e.scale : Int) then (e.scale : Int) else if k < d.scale then (d.scale : Int) else (k : Int)) = (t : Int) by split <;> split <;> omega)
  have HMin := Lib.hid (show min (s : Int) (t : Int) = (q : Int) by omega)
  obtain ⟨P, hP⟩ : ∃ P, P = d.product e := ⟨_, rfl⟩
  have hPn : nl P.n ≤ 2000 := by rw [hP]; exact nl_mul hd he
  have hPs : P.scale ≤ 2000 := by rw [hP]; show d.scale + e.scale ≤ 2000; omega
  have HPr := Lib.hid (show ∀ v1 v2 W, DecV W v1 d → DecV W v2 e → Calls Tryz.prog 28 #[v1, v2] W (RetD P W) from fun v1 v2 W h1 h2 => by rw [hP]; exact dproduct_any v1 v2 d e W h1 h2 hd he hds hes)
  have hcq : P.cut q = D := by rw [HD.out, hP, hq, hs, ht]; rfl
  have HCl := Lib.hid (show ∀ v W, DecV W v P → Calls Tryz.prog 30 #[v, .int .i64 (q : Int)] W (RetD D W) from fun v W h => by rw [← hcq]; exact cut_any v P q W h (by omega) (by omega) (by omega))
  clear hcq
  clear hs ht hq hP
  go_enter Tryz.func17, Tryz.ntmps17
  go_upto_region 1 with fail
  rw [← HW1.out, ← HG.out]
  rw [← HG.out] at HX
  have HX1 := Lib.hid HX.out.drew
  have hS : Six g d e (.slice A (nl d.n) c) (.slice A2 (nl e.n) c2) w1.drew := HX1.out.six
  unfold Six at hS
  refine wp_region_tail 16 (fun W => W.cell? ⟨g, 0, none⟩ = some (.bool d.below) ∧ W.cell? ⟨g, 1, none⟩ = some (.slice A (nl d.n) c) ∧ W.cell? ⟨g, 2, none⟩ = some (.int .i64 (d.scale : Int)) ∧ W.cell? ⟨g + 1, 0, none⟩ = some (.bool e.below) ∧ W.cell? ⟨g + 1, 1, none⟩ = some (.slice A2 (nl e.n) c2) ∧ W.cell? ⟨g + 1, 2, none⟩ = some (.int .i64 (e.scale : Int))) (by kernel_rfl) (by decide) ?_
  refine wpAnyT_take 99 0 (v := ?_) (by kernel_rfl) rfl (by kernel_rfl) (fun _ _ _ h => h) (Or.inl ⟨by rfl, fun W hW => ?_⟩) (by with_reducible assumption) ?_
  rotate_left
  focus ((try dsimp only at hW); go_simp; try with_reducible rfl)
  refine wpAnyT_take 99 1 (v := ?_) (by kernel_rfl) rfl (by kernel_rfl) (fun _ _ _ h => h) (Or.inl ⟨by rfl, fun W hW => ?_⟩) (by with_reducible assumption) ?_
  rotate_left
  focus ((try dsimp only at hW); go_simp; try with_reducible rfl)
  refine wpAnyT_take 99 3 (v := ?_) (by kernel_rfl) rfl (by kernel_rfl) (fun _ _ _ h => h) (Or.inl ⟨by rfl, fun W hW => ?_⟩) (by with_reducible assumption) ?_
  rotate_left
  focus ((try dsimp only at hW); go_simp; try with_reducible rfl)
  refine wpAnyT_take 99 4 (v := ?_) (by kernel_rfl) rfl (by kernel_rfl) (fun _ _ _ h => h) (Or.inl ⟨by rfl, fun W hW => ?_⟩) (by with_reducible assumption) ?_
  rotate_left
  focus ((try dsimp only at hW); go_simp; try with_reducible rfl)
  refine wpAnyT_take 99 5 (v := ?_) (by kernel_rfl) rfl (by kernel_rfl) (fun _ _ _ h => h) (Or.inl ⟨by rfl, fun W hW => ?_⟩) (by with_reducible assumption) ?_
  rotate_left
  focus ((try dsimp only at hW); go_simp; try with_reducible rfl)
  refine wpAnyT_take 99 6 (v := ?_) (by kernel_rfl) rfl (by kernel_rfl) (fun _ _ _ h => h) (Or.inl ⟨by rfl, fun W hW => ?_⟩) (by with_reducible assumption) ?_
  rotate_left
  focus ((try dsimp only at hW); go_simp; try with_reducible rfl)
  refine wpAnyT_take 99 7 (v := ?_) (by kernel_rfl) rfl (by kernel_rfl) (fun _ _ _ h => h) (Or.inl ⟨by rfl, fun W hW => ?_⟩) (by with_reducible assumption) ?_
  rotate_left
  focus ((try dsimp only at hW); go_simp; try with_reducible rfl)
  refine wpAnyT_take 99 8 (v := ?_) (by kernel_rfl) rfl (by kernel_rfl) (fun _ _ _ h => h) (Or.inl ⟨by rfl, fun W hW => ?_⟩) (by with_reducible assumption) ?_
  rotate_left
  focus ((try dsimp only at hW); go_simp; try with_reducible rfl)
  refine wpAnyT_take 99 9 (v := ?_) (by kernel_rfl) rfl (by kernel_rfl) (fun _ _ _ h => h) (Or.inl ⟨by rfl, fun W hW => ?_⟩) (by with_reducible assumption) ?_
  rotate_left
  focus ((try dsimp only at hW); go_simp; try with_reducible rfl)
  refine wpAnyT_take 99 10 (v := ?_) (by kernel_rfl) rfl (by kernel_rfl) (fun _ _ _ h => h) (Or.inl ⟨by rfl, fun W hW => ?_⟩) (by with_reducible assumption) ?_
  rotate_left
  focus ((try dsimp only at hW); go_simp; try with_reducible rfl)
  refine wpAnyT_take 99 11 (v := ?_) (by kernel_rfl) rfl (by kernel_rfl) (fun _ _ _ h => h) (Or.inl ⟨by rfl, fun W hW => ?_⟩) (by with_reducible assumption) ?_
  rotate_left
  focus ((try dsimp only at hW); go_simp; try with_reducible rfl)
  refine wpAnyT_take 99 12 (v := ?_) (by kernel_rfl) rfl (by kernel_rfl) (fun _ _ _ h => h) (Or.inl ⟨by rfl, fun W hW => ?_⟩) (by with_reducible assumption) ?_
  rotate_left
  focus ((try dsimp only at hW); go_simp; try with_reducible rfl)
  refine wpAnyT_take 99 13 (v := ?_) (by kernel_rfl) rfl (by kernel_rfl) (fun _ _ _ h => h) (Or.inl ⟨by rfl, fun W hW => ?_⟩) (by with_reducible assumption) ?_
  rotate_left
  focus ((try dsimp only at hW); go_simp; try with_reducible rfl)
  refine wpAnyT_take 99 14 (v := ?_) (by kernel_rfl) rfl (by kernel_rfl) (fun _ _ _ h => h) (Or.inl ⟨by rfl, fun W hW => ?_⟩) (by with_reducible assumption) ?_
  rotate_left
  focus ((try dsimp only at hW); go_simp; try with_reducible rfl)
  refine wpAnyT_one 2 (by kernel_rfl) (by decide) ?_
  refine wpOp_at rfl rfl (fun K hK => ?_)
  simp only [Act.put, List.getElem_toArray, List.getElem_cons_zero, List.getElem_cons_succ, List.setIfInBounds_toArray, List.set_cons_zero, List.set_cons_succ]
  rw [HMx.out, HMin.out]
  go_simp
  refine (HPr.out _ _ _ ⟨_, rfl, HX1.out.n1⟩ ⟨_, rfl, HX1.out.n2⟩).mono ?_
  rintro x w2 ⟨r, rfl, ⟨nr, rfl, hr⟩, hb2⟩
  obtain ⟨A8, c8, rfl, _, _⟩ := RL.form hr
  have HX2 := Lib.hid (HX1.out.keep hb2)
  have HR := Lib.hid hr
  have hS2 : Six g d e (.slice A (nl d.n) c) (.slice A2 (nl e.n) c2) w2 := HX2.out.six
  unfold Six at hS2
  clear hr hb2 hS
  refine hK.out _ _ ⟨hS2, ?_⟩
  clear hK K
  refine wpAnyT_one 15 (by kernel_rfl) (by decide) ?_
  refine wpOp_at rfl rfl (fun K hK => ?_)
  go_simp
  refine (HCl.out _ _ ⟨_, rfl, HR.out⟩).mono ?_
  rintro x w3 ⟨v3, rfl, ⟨nv3, rfl, hn3⟩, hb3⟩
  obtain ⟨A7, c7, rfl, _, _⟩ := RL.form hn3
  have HX3 := Lib.hid (HX2.out.keep hb3)
  have hS3 : Six g d e (.slice A (nl d.n) c) (.slice A2 (nl e.n) c2) w3 := HX3.out.six
  unfold Six at hS3
  have HF := Lib.hid (ret3 (w0 := w) (d := D) HX3.out.res HX3.out.res.noU hn3 HX3.out.two.below HBn.out rfl)
  clear hn3 hb3 hS2
  refine hK.out _ _ ⟨hS3, ?_⟩
  clear hK K
  refine ⟨by kernel_rfl, ?_⟩
  simp only [List.drop_succ_cons, List.drop_zero]
  obtain ⟨y0, y1, y2, yf⟩ := HX3.out.res.cells
  clear hS3
  go_wp2_with fail
  obtain ⟨z0, z1, z2, _⟩ := HF.out.1.cells
  exact bodyPost_ret (v := .agg (dcs D.below (.slice A7 (nl D.n) c7) D.scale)) (by simp [results, Tryz.results17, go_sem, z0, z1, z2]) rfl HF.out.2
end Go.Proofs.YthodlgjfmddemaaGreatDoor.Rk
