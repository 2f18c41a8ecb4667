/- Decimals in memory: the quotient. -/
import Derived.Test.YthodlgjfmddemaaGreatDoorRkZb
namespace Go.Proofs.YthodlgjfmddemaaGreatDoor.Rk
open Go.RowKit

set_option maxRecDepth 100000 in
set_option maxHeartbeats 6400000 in
theorem dquotient_any (u v : Value) (d e : Dec) (k : Nat) (w : World) (hu : DecV w u d) (hv : DecV w v e) (hd : nl d.n ≤ 1000) (he : nl e.n ≤ 1000) (hds : d.scale ≤ 1000) (hes : e.scale ≤ 1000) (hk : k ≤ 1000) (he0 : e.n ≠ 0) :
    Calls Tryz.prog 27 #[u, v, .int .i64 (k : Int)] w (RetD (d.quotient e k) w) := by
  obtain ⟨nu, rfl, hnu⟩ := hu
  obtain ⟨nv, rfl, hnv⟩ := hv
  obtain ⟨A, c, rfl, _, _⟩ := RL.form hnu
  obtain ⟨A2, c2, rfl, _, _⟩ := RL.form hnv
  obtain ⟨D, hD⟩ : ∃ D, D = d.quotient e k := ⟨_, rfl⟩
  rw [← hD]
  have hX := Bx.new w d e _ _ hnu hnv
  obtain ⟨w1, hw1⟩ : ∃ w1, w1 = ((w.alloc (.cells #[.bool d.below, .slice A (nl d.n) c, .int .i64 (d.scale : Int)] 48)).alloc (.cells #[.bool e.below, .slice A2 (nl e.n) c2, .int .i64 (e.scale : Int)] 48)).alloc (.cells #[.bool false, .slice none 0 0, .int .i64 0] 48) := ⟨_, rfl⟩
  rw [← hw1] at hX
  obtain ⟨g, hg⟩ : ∃ g, g = w.heap.size := ⟨_, rfl⟩
  have HBn := Lib.hid (show w.heap.size ≤ g + 1 + 1 by omega)
  have HG := Lib.hid hg
  have HW1 := Lib.hid hw1
  have HX := Lib.hid hX
  have HD := Lib.hid hD
  clear hX hw1 hg hnu hnv hD
  obtain ⟨s, hs⟩ : ∃ s, s = k + e.scale := ⟨_, rfl⟩
  have e1 : IntKind.i64.wrap ((k : Int) + (e.scale : Int)) = (s : Int) := by rw [hs]; exact i64_sum _ _ (by omega)
  obtain ⟨X, hXe⟩ : ∃ X, X = d.n * 10 ^ s := ⟨_, rfl⟩
  obtain ⟨Y, hYe⟩ : ∃ Y, Y = e.n * 10 ^ d.scale := ⟨_, rfl⟩
  have hXn : nl X ≤ 2000 := by rw [hXe]; exact Nat.le_trans (nl_mul hd (nl_ten s)) (by omega)
  have hYn : nl Y ≤ 2000 := by rw [hYe]; exact Nat.le_trans (nl_mul he (nl_ten d.scale)) (by omega)
  have hY0 : 0 < Y := by rw [hYe]; exact Nat.mul_pos (Nat.pos_of_ne_zero he0) (Nat.pow_pos (by decide))
  have hDq : Dec.clean ⟨d.below != e.below, X / Y, k⟩ = D := by rw [HD.out, hXe, hYe, hs]; rfl
  have HCl := Lib.hid (show ∀ v W, DecV W v ⟨d.below != e.below, X / Y, k⟩ → Calls Tryz.prog 35 #[v] W (RetD D W) from fun v W h => by rw [← hDq]; exact clean_any v _ W h)
  have HXe := Lib.hid hXe
  have HYe := Lib.hid hYe
  have hnt1 := nl_ten s
  have hnt2 := nl_ten d.scale
  have HNT := Lib.hid (show nl (10 ^ s) ≤ 1000 ∧ nl (10 ^ d.scale) ≤ 1000 by omega)
  have HS10 := Lib.hid (show s ≤ 2000 by omega)
  clear hs hXe hYe hDq hnt1 hnt2
  go_enter Tryz.func27, Tryz.ntmps27
  go_upto_region 1 with fail
  rw [← HW1.out, ← HG.out]
  rw [← HG.out] at HX
  have HX1 := Lib.hid HX.out.drew
  have hS : Six g d e (.slice A (nl d.n) c) (.slice A2 (nl e.n) c2) w1.drew := HX1.out.six
  unfold Six at hS
  refine wp_region_tail 14 (fun W => W.cell? ⟨g, 0, none⟩ = some (.bool d.below) ∧ W.cell? ⟨g, 1, none⟩ = some (.slice A (nl d.n) c) ∧ W.cell? ⟨g, 2, none⟩ = some (.int .i64 (d.scale : Int)) ∧ W.cell? ⟨g + 1, 0, none⟩ = some (.bool e.below) ∧ W.cell? ⟨g + 1, 1, none⟩ = some (.slice A2 (nl e.n) c2) ∧ W.cell? ⟨g + 1, 2, none⟩ = some (.int .i64 (e.scale : Int))) (by kernel_rfl) (by decide) ?_
  refine wpAnyT_take 99 0 (v := ?_) (by kernel_rfl) rfl (by kernel_rfl) (fun _ _ _ h => h) (Or.inl ⟨by rfl, fun W hW => ?_⟩) (by with_reducible assumption) ?_
  rotate_left
  focus ((try dsimp only at hW); go_simp; try with_reducible rfl)
  refine wpAnyT_take 99 1 (v := ?_) (by kernel_rfl) rfl (by kernel_rfl) (fun _ _ _ h => h) (Or.inl ⟨by rfl, fun W hW => ?_⟩) (by with_reducible assumption) ?_
  rotate_left
  focus ((try dsimp only at hW); go_simp; try with_reducible rfl)
  refine wpAnyT_take 99 2 (v := ?_) (by kernel_rfl) rfl (by kernel_rfl) (fun _ _ _ h => h) (Or.inl ⟨by rfl, fun W hW => ?_⟩) (by with_reducible assumption) ?_
  rotate_left
  focus ((try dsimp only at hW); go_simp; try with_reducible rfl)
  refine wpAnyT_take 99 3 (v := ?_) (by kernel_rfl) rfl (by kernel_rfl) (fun _ _ _ h => h) (Or.inl ⟨by rfl, fun W hW => ?_⟩) (by with_reducible assumption) ?_
  rotate_left
  focus ((try dsimp only at hW); go_simp; try with_reducible rfl)
  refine wpAnyT_take 99 4 (v := ?_) (by kernel_rfl) rfl (by kernel_rfl) (fun _ _ _ h => h) (Or.inl ⟨by rfl, fun W hW => ?_⟩) (by with_reducible assumption) ?_
  rotate_left
  focus ((try dsimp only at hW); go_simp; try with_reducible rfl)
  refine wpAnyT_take 99 5 (v := ?_) (by kernel_rfl) rfl (by kernel_rfl) (fun _ _ _ h => h) (Or.inl ⟨by rfl, fun W hW => ?_⟩) (by with_reducible assumption) ?_
  rotate_left
  focus ((try dsimp only at hW); go_simp; try with_reducible rfl)
  refine wpAnyT_take 99 8 (v := ?_) (by kernel_rfl) rfl (by kernel_rfl) (fun _ _ _ h => h) (Or.inl ⟨by rfl, fun W hW => ?_⟩) (by with_reducible assumption) ?_
  rotate_left
  focus ((try dsimp only at hW); go_simp; try with_reducible rfl)
  refine wpAnyT_take 99 9 (v := ?_) (by kernel_rfl) rfl (by kernel_rfl) (fun _ _ _ h => h) (Or.inl ⟨by rfl, fun W hW => ?_⟩) (by with_reducible assumption) ?_
  rotate_left
  focus ((try dsimp only at hW); go_simp; try with_reducible rfl)
  refine wpAnyT_take 99 10 (v := ?_) (by kernel_rfl) rfl (by kernel_rfl) (fun _ _ _ h => h) (Or.inl ⟨by rfl, fun W hW => ?_⟩) (by with_reducible assumption) ?_
  rotate_left
  focus ((try dsimp only at hW); go_simp; try with_reducible rfl)
  refine wpAnyT_take 99 11 (v := ?_) (by kernel_rfl) rfl (by kernel_rfl) (fun _ _ _ h => h) (Or.inl ⟨by rfl, fun W hW => ?_⟩) (by with_reducible assumption) ?_
  rotate_left
  focus ((try dsimp only at hW); go_simp; try with_reducible rfl)
  refine wpAnyT_one 6 (by kernel_rfl) (by decide) ?_
  refine wpOp_at rfl rfl (fun K hK => ?_)
  simp only [Act.put, List.getElem_toArray, List.getElem_cons_zero, List.getElem_cons_succ, List.setIfInBounds_toArray, List.set_cons_zero, List.set_cons_succ]
  go_simp
  refine (ten_any s _ (by have := HS10.out; omega)).mono ?_
  rintro x w2 ⟨r1, rfl, hr1, hbw2⟩
  have HX2 := Lib.hid (HX1.out.keep hbw2)
  have Hr1 := Lib.hid hr1
  have hS2 : Six g d e (.slice A (nl d.n) c) (.slice A2 (nl e.n) c2) w2 := HX2.out.six
  unfold Six at hS2
  clear hr1 hbw2 hS
  refine hK.out _ _ ⟨hS2, ?_⟩
  clear hK K
  refine wpAnyT_one 7 (by kernel_rfl) (by decide) ?_
  refine wpOp_at rfl rfl (fun K hK => ?_)
  go_simp
  refine (times_any _ _ d.n (10 ^ s) _ HX2.out.n1 Hr1.out (by omega) (by have := HNT.out.1; omega)).mono ?_
  rintro x w3 ⟨r2, rfl, hr2, hbw3⟩
  have HX3 := Lib.hid (HX2.out.keep hbw3)
  rw [← HXe.out] at hr2
  have Hr2 := Lib.hid hr2
  have hS3 : Six g d e (.slice A (nl d.n) c) (.slice A2 (nl e.n) c2) w3 := HX3.out.six
  unfold Six at hS3
  clear hr2 hbw3 hS2
  refine hK.out _ _ ⟨hS3, ?_⟩
  clear hK K
  refine wpAnyT_one 12 (by kernel_rfl) (by decide) ?_
  refine wpOp_at rfl rfl (fun K hK => ?_)
  go_simp
  refine (ten_any d.scale _ (by omega)).mono ?_
  rintro x w4 ⟨r3, rfl, hr3, hbw4⟩
  have HX4 := Lib.hid (HX3.out.keep hbw4)
  have Hr2b := Lib.hid (Hr2.out.keep hbw4)
  have Hr3 := Lib.hid hr3
  have hS4 : Six g d e (.slice A (nl d.n) c) (.slice A2 (nl e.n) c2) w4 := HX4.out.six
  unfold Six at hS4
  clear hr3 hbw4 hS3
  refine hK.out _ _ ⟨hS4, ?_⟩
  clear hK K
  refine wpAnyT_one 13 (by kernel_rfl) (by decide) ?_
  refine wpOp_at rfl rfl (fun K hK => ?_)
  go_simp
  refine (times_any _ _ e.n (10 ^ d.scale) _ HX4.out.n2 Hr3.out (by omega) (by have := HNT.out.2; omega)).mono ?_
  rintro x w5 ⟨r4, rfl, hr4, hbw5⟩
  have HX5 := Lib.hid (HX4.out.keep hbw5)
  rw [← HYe.out] at hr4
  have Hr2c := Lib.hid (Hr2b.out.keep hbw5)
  have Hr4 := Lib.hid hr4
  have hS5 : Six g d e (.slice A (nl d.n) c) (.slice A2 (nl e.n) c2) w5 := HX5.out.six
  unfold Six at hS5
  clear hr4 hbw5 hS4
  refine hK.out _ _ ⟨hS5, ?_⟩
  clear hK K
  refine ⟨by kernel_rfl, ?_⟩
  simp only [List.drop_succ_cons, List.drop_zero]
  clear hS5
  go_wp2_with fail
  refine (divide_any _ _ X Y _ Hr2c.out Hr4.out (by omega) (by omega) hY0).mono ?_
  rintro x w6 ⟨q6, r6, rfl, hq6, _, hb6⟩
  obtain ⟨Aq, cq, rfl, _, _⟩ := RL.form hq6
  have HX6 := Lib.hid (HX5.out.keep hb6)
  have HQ6 := Lib.hid hq6
  obtain ⟨a0, _, _, _⟩ := HX6.out.two.a.cells
  obtain ⟨b0, _, _, _⟩ := HX6.out.two.b.cells
  clear hq6 hb6
  go_wp2_with fail
  refine (HCl.out _ _ ⟨_, rfl, HQ6.out⟩).mono ?_
  rintro x w7 ⟨v7, rfl, ⟨nv7, rfl, hn7⟩, hb7⟩
  obtain ⟨A7, c7, rfl, _, _⟩ := RL.form hn7
  have HX7 := Lib.hid (HX6.out.keep hb7)
  have HF := Lib.hid (ret3 (w0 := w) (d := D) HX7.out.res HX7.out.res.noU hn7 HX7.out.two.below HBn.out rfl)
  obtain ⟨y0, y1, y2, yf⟩ := HX7.out.res.cells
  clear hn7 hb7 a0 b0
  go_wp2_with fail
  obtain ⟨z0, z1, z2, _⟩ := HF.out.1.cells
  exact bodyPost_ret (v := .agg (dcs D.below (.slice A7 (nl D.n) c7) D.scale)) (by simp [results, Tryz.results27, go_sem, z0, z1, z2]) rfl HF.out.2
end Go.Proofs.YthodlgjfmddemaaGreatDoor.Rk
